/-
  Code, reckoned.
  Functions, reckoned: how they begin and leave; rounds; the knot.
  Functions, deferred calls, rounds; the knot.
  Rounds; the knot; a closed call, reckoned.
  What a seat's tables must show.
  The heads of law 13: a closed call, reckoned.
  The heads of law 13 are true.
  The heads of law 13.
  What the rows of law 13 tell of the package-level tables; a world that has them.
  Programs of three-address code, as memory holds them.
  The argument, read: a program of three-address code.
  The argument of law13's laws, read and read again.
  tac: power.
  tac: offset.
-/
import Derived.Test.YtpohhfggmaihpaaGreatDoorZ7
import Derived.RangeFuncLeaves
import Derived.RecoverIn
import Derived.RangeFuncRecord
import Derived.RangeFuncIn
import Derived.Conc.MarkLaws
import Derived.KernelRfl
import Derived.Test.YtpohhfggmaihpaaGreatDoorZ2
import Derived.Test.YtpohhfggmaihpaaGreatDoorZ3
import Derived.Test.YtpohhfggmaihpaaGreatDoorCards
import Derived.Test.YtpohhfggmaihpaaGreatDoorTie
import Derived.Lay
import Derived.Lib.LaidTab
import Derived.LaidSub
import Derived.LaidMore
import Derived.MakeChecks
import Derived.Deep.DeepHandedRow
import Derived.Deep.DeepWitnessRowRef
import Derived.SevenTiedAt
import Derived.OpenShut
import Derived.Stop.Joined

/- Code, reckoned. -/
namespace Go.Ev
open Go.Wk
set_option linter.unusedVariables false
set_option linter.unusedSimpArgs false

/-! ### Loops -/
def Unr (F : Fence) (P : Program) (c : Code) (Q : Post) : Nat → Act → World → Prop
  | 0, _, _ => False
  | n + 1, a, w => c.wpIn F 0 P (Exit.then (Unr F P c Q n) Q) a w
theorem wpIn_unr {F : Fence} {P : Program} {c : Code} {Q : Post} {n : Nat} {a : Act} {w : World} (h : Unr F P c Q n a w) : (Code.loop c).wpIn F 0 P Q a w := by
  refine wpIn_loop (fun a w => ∃ n, Unr F P c Q n a w) (fun a w => leastOf (fun n => Unr F P c Q n a w)) ⟨n, h⟩ ?_
  intro a w hI
  have hs := leastOf_spec hI
  generalize hm : leastOf (fun n => Unr F P c Q n a w) = m at hs ⊢
  obtain ⟨h1, h2⟩ := hs
  cases m with
  | zero => exact h1.elim
  | succ m =>
    refine wpIn_mono h1 (fun e a' w' hq => ?_)
    cases e with
    | normal => exact ⟨⟨m, hq⟩, Nat.lt_of_le_of_lt ((leastOf_spec (p := fun n => Unr F P c Q n a' w') ⟨m, hq⟩).2 m hq) (Nat.lt_succ_self m)⟩
    | _ => exact hq
def lopE : Nat → (Fm → St → Option (Ex × Fm × St)) → Fm → St → Option (Ex × Fm × St)
  | 0, _, _, _ => none
  | n + 1, b, fm, s => (b fm s).bind fun r => match r.1 with
    | .norm => lopE n b r.2.1 r.2.2
    | _ => some r

def blkE (id : Nat) (r : Ex × Fm × St) : Ex × Fm × St := match r.1 with
  | .exit j => bif Nat.beq j id then (.norm, r.2) else r
  | _ => r
def arrE (fm : Fm) : List Value := (List.range fm.N).map fun i => (fm.t.get i).getD undef
def jmpE (fm : Fm) (s : St) : Option Code → Option (Ex × Fm × St)
  | none => some (.norm, fm, s)
  | some .ret => some (.ret, fm, s)
  | some (.exit j) => some (.exit j, fm, s)
  | _ => none
def rngE (K : Cal) (ps : Array Tmp) (asg body : Code) (fm : Fm) (s : St) : Value → Option (Ex × Fm × St)
  | .func (.func k) l m => (s.new (.deferred (some []))).bind fun s1 => (s1.new (.loop { state := .ready, pending := none, fn := 0, tmps := ⟨arrE fm⟩, params := ps, assign := asg, body := body, defers := BB + s.n })).bind fun s2 =>
    (K.fn k (l.toList ++ [.func (.yield (BB + s1.n)) ⟨[]⟩ ⟨[]⟩] ++ m.toList) s2).bind fun r => match r.1 with
      | .ret _ => (match r.2.h.get s1.n with
        | some (.loop lp) => bif (match lp.state with | .busy => true | _ => false) then none else (r.2.upd s1.n (some (.loop { lp with state := .exhausted }))).bind fun s4 => jmpE { fm with ds := ⟨.collected (BB + s.n), ⟨[]⟩⟩ :: fm.ds } s4 lp.pending
        | _ => none)
      | .pan ch => some (.pan ch, { fm with ds := ⟨.collected (BB + s.n), ⟨[]⟩⟩ :: fm.ds }, r.2)
  | _ => none
def codE (C : Ct) (K : Cal) (dok : Bool) (LF : Nat) : Code → Fm → St → Option (Ex × Fm × St)
  | .skip, fm, s => some (.norm, fm, s)
  | .label _, fm, s => some (.norm, fm, s)
  | .region _ ops draw, fm, s => bif draw then (bif noDS ops then drwE C K ops.toList ops.toList.length false [] [] (Array.replicate ops.toList.length false) fm s else none) else opsE C K dok ops.toList ops.toList fm s
  | .seq x y, fm, s => (codE C K dok LF x fm s).bind fun r => match r.1 with
    | .norm => codE C K dok LF y r.2.1 r.2.2
    | _ => some r
  | .cond c x y, fm, s => match evE fm.t c with
    | some (.bool true) => codE C K dok LF x fm s
    | some (.bool false) => codE C K dok LF y fm s
    | _ => none
  | .block id b, fm, s => (codE C K dok LF b fm s).bind fun r => some (blkE id r)
  | .loop b, fm, s => lopE LF (codE C K dok LF b) fm s
  | .exit id, fm, s => some (.exit id, fm, s)
  | .ret, fm, s => some (.ret, fm, s)
  | .rangeFunc g ps asg body, fm, s => bif dok then (evE fm.t g).bind (rngE K ps asg body fm s) else none
  | _, _, _ => none

section
variable {C : Ct} {w0 : World} {D : Nat → Prop} {N : Nat} {ro : Option Nat} {K : Cal} {dok : Bool} {LF : Nat}

theorem PoE.then {ρ : Env} {r out : Ex × Fm × St} {e : Exit} {a : Act} {w : World} {k : Act → World → Prop} (h : PoE C w0 D ρ N r e a w)
    (hn : r.1 = .norm → ∀ τ a w, Fr (ρ ++ τ) N r.2.1 a → Sr C w0 D (ρ ++ τ) r.2.2 w → k a w) (ho : r.1 ≠ .norm → out = r) : Exit.then k (PoE C w0 D ρ N out) e a w := by
  have h0 := h
  obtain ⟨τ, h1, h2, h3, h4⟩ := h
  obtain ⟨x, fm, s⟩ := r
  cases x with
  | norm =>
    cases e with
    | normal => exact hn rfl τ a w (h3 rfl) h4
    | _ => exact h1.elim
  | exit j => rw [ho (by simp)]; cases e <;> first | exact h0 | exact h1.elim
  | goto j => rw [ho (by simp)]; cases e <;> first | exact h0 | exact h1.elim
  | ret => rw [ho (by simp)]; cases e <;> first | exact h0 | exact h1.elim
  | pan ch => rw [ho (by simp)]; cases e <;> first | exact h0 | exact h1.elim
theorem PoE.block {ρ : Env} {r : Ex × Fm × St} {e : Exit} {a : Act} {w : World} {id : Nat} (h : PoE C w0 D ρ N r e a w) : Exit.inBlock id (PoE C w0 D ρ N (blkE id r)) e a w := by
  have h0 := h
  obtain ⟨τ, h1, h2, h3, h4⟩ := h
  obtain ⟨x, fm, s⟩ := r
  cases x with
  | exit j =>
    cases e with
    | exit j' =>
      have hj : j = j' := h1
      subst hj
      simp only [blkE, Exit.inBlock]
      by_cases hid : j = id
      · subst hid
        rw [if_pos rfl, Nat.beq_refl]
        exact ⟨τ, trivial, (fun hp => by cases hp), (fun _ => h3 rfl), h4⟩
      · have hb : Nat.beq j id = false := by
          cases hk : Nat.beq j id with
          | false => rfl
          | true => exact absurd (Nat.eq_of_beq_eq_true hk) hid
        rw [if_neg hid, hb]
        exact h0
    | _ => exact h1.elim
  | norm => cases e <;> first | exact h0 | exact h1.elim
  | goto j => cases e <;> first | exact h0 | exact h1.elim
  | ret => cases e <;> first | exact h0 | exact h1.elim
  | pan ch => cases e <;> first | exact h0 | exact h1.elim

theorem arr_conc {ρ : Env} {fm : Fm} {a : Act} (h : Fr ρ N fm a) : concA ρ ⟨arrE fm⟩ = some a.tmps := by
  refine concA_mk.2 ?_
  have key : ∀ (k : Nat), k ≤ N → concs ρ ((List.range k).map fun i => (fm.t.get i).getD undef) = some (a.tmps.toList.take k) := by
    intro k
    induction k with
    | zero => intro _; simp [concs_nil]
    | succ k ih =>
      intro hk
      rw [List.range_succ, List.map_append]
      have hlt : k < a.tmps.toList.length := by simpa using (show k < a.tmps.size by rw [h.size]; omega)
      rw [List.take_succ_eq_append_getElem hlt]
      refine concs_app (ih (by omega)) (concs_one ?_)
      have hg : a.tmps.getD k undef = a.tmps.toList[k] := by
        have hlt' : k < a.tmps.size := by rw [h.size]; omega
        simp [Array.getD_eq_getD_getElem?, Array.getElem?_eq_getElem hlt']
      rw [← hg]
      show conc ρ ((fm.t.get k).getD undef) = some _
      cases hq : fm.t.get k with
      | none => rw [Option.getD_none, h.un k hq]; exact conc_undef ρ
      | some v =>
        obtain ⟨u, h1, h2⟩ := h.kn k v hq
        rw [Option.getD_some, h2]; exact h1
  unfold arrE
  rw [h.nn]
  have := key N (Nat.le_refl _)
  rwa [List.take_of_length_le (by have := h.size; simp [this])] at this

theorem concO_loop {ρ : Env} {L : Loc} {lp : Loop} {o : Obj} (h : concO C ρ L (.loop lp) = some o) : ∃ t d, concA ρ lp.tmps = some t ∧ cad ρ lp.defers = some d ∧ o = .loop { lp with tmps := t, defers := d, fn := L.cap } := by
  have h' : (match concA ρ lp.tmps, cad ρ lp.defers with | some t', some d' => some (Obj.loop { lp with tmps := t', defers := d', fn := L.cap }) | _, _ => none) = some o := h
  split at h'
  · rename_i t d h1 h2
    exact ⟨t, d, h1, h2, (Option.some.inj h').symm⟩
  · cases h'
theorem concO_mkloop {ρ : Env} {L : Loc} {lp : Loop} {t : Array Value} {d : Nat} (h1 : concA ρ lp.tmps = some t) (h2 : cad ρ lp.defers = some d) : concO C ρ L (.loop lp) = some (.loop { lp with tmps := t, defers := d, fn := L.cap }) := by
  show (match concA ρ lp.tmps, cad ρ lp.defers with | some t', some d' => some (Obj.loop { lp with tmps := t', defers := d', fn := L.cap }) | _, _ => none) = _
  rw [h1, h2]

theorem rngE_spec (hK : CalOk C K) {ρ : Env} {fm : Fm} {s : St} {a : Act} {w : World} {g : Operand} {ps : Array Tmp} {asg body : Code} {v : Value} {out : Ex × Fm × St} (h : Fr ρ N fm a) (H : Sr C w0 D ρ s w) (hg : evE fm.t g = some v) (hb : rngE K ps asg body fm s v = some out) :
    (Code.rangeFunc g ps asg body).wpIn (Wk.Fr none) 0 C.P (PoE C w0 D ρ N out) a w := by
  obtain ⟨v', hv, he⟩ := evE_spec h hg
  unfold rngE at hb
  split at hb
  · rename_i k l m
    simp only [conc, cfn] at hv
    split at hv
    · rename_i fn' l' m' hfn hl hm
      cases hfn; cases hv
      obtain ⟨s1, hs1, hb⟩ := Option.bind_eq_some_iff.1 hb
      obtain ⟨s2, hs2, hb⟩ := Option.bind_eq_some_iff.1 hb
      obtain ⟨r, hr, hb⟩ := Option.bind_eq_some_iff.1 hb
      refine wpIn_rangeFunc (fun fn _ => ?_)
      let w1 := w.alloc (.deferred (some []))
      let ρ1 := ρ ++ [(s.n, (⟨w.heap.size, 0, []⟩ : Loc))]
      have H1 : Sr C w0 D ρ1 s1 w1 := H.alloc (o' := .deferred (some [])) (cap := 0) (sp := []) rfl hs1
      have hd : cad ρ1 (BB + s.n) = some w.heap.size := by
        unfold cad
        rw [BB_ble, BB_sub, cond_true, lcE_new _ H.un]; rfl
      let ρ2 := ρ1 ++ [(s1.n, (⟨w1.heap.size, fn, []⟩ : Loc))]
      let rc : Loop := { state := .ready, pending := none, fn := fn, tmps := a.tmps, params := ps, assign := asg, body := body, defers := w.heap.size }
      have H2 : Sr C w0 D ρ2 s2 (w1.alloc (.loop rc)) := by
        refine H1.alloc (o' := .loop rc) (cap := fn) (sp := []) ?_ hs2
        exact concO_mkloop (L := ⟨w1.heap.size, fn, []⟩) (concA_mono _ (concA_mono _ (arr_conc h))) (cad_mono _ hd)
      have hl2 : cad ρ2 (BB + s1.n) = some w1.heap.size := by
        unfold cad
        rw [BB_ble, BB_sub, cond_true, lcE_new _ H1.un]; rfl
      have hgetl : lcE ρ2 s1.n = some ⟨w1.heap.size, fn, []⟩ := lcE_new _ H1.un
      have hargs : concs ρ2 (l.toList ++ [.func (.yield (BB + s1.n)) ⟨[]⟩ ⟨[]⟩] ++ m.toList) = some (l'.toList ++ [Value.func (.yield w1.heap.size) ⟨[]⟩ ⟨[]⟩] ++ m'.toList) := by
        refine concs_app (concs_app (concs_mono _ (concs_mono _ (concA_iff.1 hl))) (concs_one ?_)) (concs_mono _ (concs_mono _ (concA_iff.1 hm)))
        exact conc_func (fn' := .yield w1.heap.size) (by simp only [cfn, hl2, Option.map_some]) (concs_nil _) (concs_nil _)
      obtain ⟨e, s3⟩ := r
      obtain ⟨⟨fnn, hfn1, hfn2⟩, hcall⟩ := hK.fn _ _ _ _ _ hr
      have hC := hcall w0 D ρ2 (w1.alloc (.loop rc)) _ H2 hargs
      refine ⟨w1.heap.size, [⟨.collected w.heap.size, #[]⟩], w1.alloc (.loop rc), ⟨.fn (.func k) m', l' ++ #[.func (.yield w1.heap.size) #[] #[]]⟩, w1.alloc (.loop rc), k, (l'.toList ++ [Value.func (.yield w1.heap.size) ⟨[]⟩ ⟨[]⟩] ++ m'.toList).toArray, w1.alloc (.loop rc), ?_, ?_, ?_, ?_, ?_, ?_⟩
      · show (Instr.enterLoop fn a.tmps ps asg body none).run C.P w = _
        simp only [Instr.enterLoop, Sem.run_bind, run_newObj_alloc, Result.andThen_ok, run_pure']
        rfl
      · simp only [resolve, rangeCall, he, Deferred.ofValue, run_pure']
        simp [Act.eval]
      · intro f' _; trivial
      · show (callFunc k (l' ++ #[Value.func (.yield w1.heap.size) #[] #[]] ++ m')).run C.P _ = _
        have e1 : l' ++ #[Value.func (.yield w1.heap.size) #[] #[]] ++ m' = (l'.toList ++ [Value.func (.yield w1.heap.size) ⟨[]⟩ ⟨[]⟩] ++ m'.toList).toArray := by apply Array.ext'; simp
        rw [e1]
        exact callFunc_enter hfn1 hfn2 _ _
      · intro hh; simp [Fence.wide] at hh
      · have h6 : CallsIn Fence.wide (0 - 1) C.P k (l'.toList ++ [Value.func (.yield w1.heap.size) ⟨[]⟩ ⟨[]⟩] ++ m'.toList).toArray (w1.alloc (.loop rc)) (fun e' w' => ∃ τ, ErR (ρ2 ++ τ) e e' ∧ Sr C w0 D (ρ2 ++ τ) s3 w') := callsIn_wide.2 hC
        have h7 : CallsIn (Wk.Fr none) (0 - 1) C.P k (l'.toList ++ [Value.func (.yield w1.heap.size) ⟨[]⟩ ⟨[]⟩] ++ m'.toList).toArray (w1.alloc (.loop rc)) (fun e' w' => ∃ τ, ErR (ρ2 ++ τ) e e' ∧ Sr C w0 D (ρ2 ++ τ) s3 w') := h6
        refine CallsIn.mono h7 ?_
        rintro e' w3 ⟨τ, g1, g2⟩
        have hassoc : ρ2 ++ τ = ρ ++ ([(s.n, (⟨w.heap.size, 0, []⟩ : Loc))] ++ [(s1.n, (⟨w1.heap.size, fn, []⟩ : Loc))] ++ τ) := by simp [ρ2, ρ1]
        have hfr : ∀ {s4 : St} {w4 : World}, Fr (ρ2 ++ τ) N { fm with ds := ⟨.collected (BB + s.n), ⟨[]⟩⟩ :: fm.ds } { a with defers := [⟨.collected w.heap.size, #[]⟩] ++ a.defers } := fun {s4 w4} => by
          have hm := h.mono ([(s.n, (⟨w.heap.size, 0, []⟩ : Loc))] ++ [(s1.n, (⟨w1.heap.size, fn, []⟩ : Loc))] ++ τ)
          rw [← hassoc] at hm
          refine ⟨hm.nn, hm.size, hm.kn, hm.un, ?_⟩
          have hd2 : cad (ρ2 ++ τ) (BB + s.n) = some w.heap.size := cad_mono _ (cad_mono _ hd)
          have hm2 := hm.ds
          simp only [concDs, concD, hd2, concA, concs, Option.map_some, hm2]
          rfl
        cases e with
        | ret vv =>
          simp only at hb
          split at hb
          · rename_i lp hlp
            cases hst : (match lp.state with | .busy => true | _ => false : Bool) with
            | true => rw [hst] at hb; cases hb
            | false =>
              rw [hst, cond_false] at hb
              obtain ⟨s4, hs4, hb⟩ := Option.bind_eq_some_iff.1 hb
              obtain ⟨L3, o', q1, q2, q3⟩ := g2.holds _ _ hlp
              have hL3 : lcE (ρ2 ++ τ) s1.n = some ⟨w1.heap.size, fn, []⟩ := by
                exact lcE_app _ hgetl
              rw [hL3] at q1; cases q1
              obtain ⟨t', d', q4, q5, rfl⟩ := concO_loop q2
              have hg' := run_getObj (P := C.P) q3 (by intro c e f hh; cases hh)
              have hset := run_setObj (P := C.P) q3 (by intro c e f hh; cases hh) (.loop { lp with tmps := t', defers := d', fn := fn, state := .exhausted })
              have hlt := (Array.getElem?_eq_some_iff.1 q3).1
              have H4 : Sr C w0 D (ρ2 ++ τ) s4 { w3 with heap := w3.heap.setIfInBounds w1.heap.size (.loop { lp with tmps := t', defers := d', fn := fn, state := .exhausted }) } := by
                refine g2.write hlp hL3 (concO_mkloop (L := ⟨w1.heap.size, fn, []⟩) (lp := { lp with state := .exhausted }) q4 q5) hs4 (by simp [hlt]) (fun z _ hz => ?_) (by simp) rfl rfl rfl
                show (w3.heap.setIfInBounds w1.heap.size _)[z]? = _
                rw [Array.getElem?_setIfInBounds_ne (Ne.symm hz)]
              cases e' with
              | returned u =>
                generalize hw5 : ({ w3 with heap := w3.heap.setIfInBounds w1.heap.size (.loop { lp with tmps := t', defers := d', fn := fn, state := .exhausted }) } : World) = w5 at H4 hset
                refine ⟨lp.pending, w5, ?_, ?_⟩
                · have hnb : (lp.state == LoopState.busy) = false := by
                    cases hs : lp.state <;> rw [hs] at hst <;> first | rfl | cases hst
                  simp only [Instr.endLoop, Instr.getLoop, Sem.run_bind, hg', Result.andThen_ok, run_pure', hnb]
                  simp only [Bool.false_eq_true, if_false, Sem.run_bind, run_pure', Result.andThen_ok, hset]
                · unfold jmpE at hb
                  split at hb
                  · rename_i hp
                    cases hb
                    rw [hp]
                    exact PoE.more (τ := [(s.n, (⟨w.heap.size, 0, []⟩ : Loc))] ++ [(s1.n, (⟨w1.heap.size, fn, []⟩ : Loc))] ++ τ) (by rw [← hassoc]; exact PoE.of rfl trivial (hfr (s4 := s4) (w4 := w3)) H4)
                  · rename_i hp
                    cases hb
                    rw [hp]
                    exact wpIn_ret (PoE.more (τ := [(s.n, (⟨w.heap.size, 0, []⟩ : Loc))] ++ [(s1.n, (⟨w1.heap.size, fn, []⟩ : Loc))] ++ τ) (by rw [← hassoc]; exact PoE.of rfl trivial (hfr (s4 := s4) (w4 := w3)) H4))
                  · rename_i j hp
                    cases hb
                    rw [hp]
                    exact wpIn_exit (PoE.more (τ := [(s.n, (⟨w.heap.size, 0, []⟩ : Loc))] ++ [(s1.n, (⟨w1.heap.size, fn, []⟩ : Loc))] ++ τ) (by rw [← hassoc]; exact PoE.of rfl rfl (hfr (s4 := s4) (w4 := w3)) H4))
                  · cases hb
              | panicked ch => exact g1.elim
              | outgrown => exact g1.elim
          · cases hb
        | pan ch =>
          simp only [Option.some.injEq] at hb
          subst hb
          cases e' with
          | returned u => exact g1.elim
          | panicked ch' =>
            exact PoE.more (τ := [(s.n, (⟨w.heap.size, 0, []⟩ : Loc))] ++ [(s1.n, (⟨w1.heap.size, fn, []⟩ : Loc))] ++ τ) (by rw [← hassoc]; exact PoE.pan (τ := []) (by rw [List.append_nil]; exact g1) (by rw [List.append_nil]; exact (hfr (s4 := s3) (w4 := w3)).x) (by rw [List.append_nil]; exact g2))
          | outgrown => exact g1.elim
    · cases hv
  · cases hb

theorem codE_spec (hK : CalOk C K) (hro : dok = true → ro = none) : ∀ {c : Code} {ρ : Env} {fm : Fm} {s : St} {a : Act} {w : World} {out : Ex × Fm × St}, Fr ρ N fm a → Sr C w0 D ρ s w → codE C K dok LF c fm s = some out → c.wpIn (Wk.Fr ro) 0 C.P (PoE C w0 D ρ N out) a w := by
  intro c
  induction c with
  | skip => intro ρ fm s a w out h H hb; simp only [codE, Option.some.injEq] at hb; subst hb; exact wpIn_skip (PoE.of rfl trivial h H)
  | label l => intro ρ fm s a w out h H hb; simp only [codE, Option.some.injEq] at hb; subst hb; exact wpIn_label (PoE.of rfl trivial h H)
  | exit id => intro ρ fm s a w out h H hb; simp only [codE, Option.some.injEq] at hb; subst hb; exact wpIn_exit (PoE.of rfl rfl h H)
  | ret => intro ρ fm s a w out h H hb; simp only [codE, Option.some.injEq] at hb; subst hb; exact wpIn_ret (PoE.of rfl trivial h H)
  | region id ops draw =>
    intro ρ fm s a w out h H hb
    obtain ⟨ops⟩ := ops
    simp only [codE] at hb
    cases draw with
    | false =>
      rw [cond_false] at hb
      exact wpIn_region_lit (opsE_spec hK hro h H hb)
    | true =>
      rw [cond_true] at hb
      cases hns : noDS ⟨ops⟩ with
      | false => rw [hns] at hb; cases hb
      | true =>
        rw [hns, cond_true] at hb
        refine wpIn_region_any C.mixed ?_
        have h1 := drwE_spec (ro := ro) (LS := []) (LA := []) (rec := []) hK hns h H.drew (show LR ρ [] [] from trivial) (by intro hh; cases hh) hb
        have h2 := AnyR.sound _ _ _ _ _ h1
        simpa using h2
  | seq x y ihx ihy =>
    intro ρ fm s a w out h H hb
    simp only [codE] at hb
    obtain ⟨r, hr, hb⟩ := Option.bind_eq_some_iff.1 hb
    refine wpIn_seq (wpIn_mono (ihx h H hr) (fun e a w hp => hp.then (fun hn τ a w h' H' => ?_) (fun hn => ?_)))
    · obtain ⟨x', fm', s'⟩ := r
      simp only at hn; subst hn
      exact wpIn_mono (ihy h' H' hb) (fun e a w hq => hq.more)
    · obtain ⟨x', fm', s'⟩ := r
      cases x' <;> first | exact absurd rfl hn | (cases hb; rfl)
  | cond c x y ihx ihy =>
    intro ρ fm s a w out h H hb
    simp only [codE] at hb
    split at hb
    · rename_i hc
      obtain ⟨u, hu, he⟩ := evE_spec h hc
      simp only [conc, Option.some.injEq] at hu; subst hu
      exact wpIn_cond_true he (ihx h H hb)
    · rename_i hc
      obtain ⟨u, hu, he⟩ := evE_spec h hc
      simp only [conc, Option.some.injEq] at hu; subst hu
      exact wpIn_cond_false he (ihy h H hb)
    · cases hb
  | block id b ih =>
    intro ρ fm s a w out h H hb
    simp only [codE] at hb
    obtain ⟨r, hr, hb⟩ := Option.bind_eq_some_iff.1 hb
    cases hb
    exact wpIn_block (wpIn_mono (ih h H hr) (fun e a w hp => hp.block))
  | loop b ih =>
    intro ρ fm s a w out h H hb
    simp only [codE] at hb
    have key : ∀ (n : Nat) {ρ : Env} {fm : Fm} {s : St} {a : Act} {w : World}, Fr ρ N fm a → Sr C w0 D ρ s w → lopE n (codE C K dok LF b) fm s = some out → Unr (Wk.Fr ro) C.P b (PoE C w0 D ρ N out) n a w := by
      intro n
      induction n with
      | zero => intro ρ fm s a w h H hb; cases hb
      | succ n ihn =>
        intro ρ fm s a w h H hb
        simp only [lopE] at hb
        obtain ⟨r, hr, hb⟩ := Option.bind_eq_some_iff.1 hb
        refine wpIn_mono (ih h H hr) (fun e a w hp => hp.then (fun hn τ a w h' H' => ?_) (fun hn => ?_))
        · obtain ⟨x', fm', s'⟩ := r
          simp only at hn; subst hn
          have h5 := ihn h' H' hb
          have mono : ∀ (n : Nat) (a : Act) (w : World), Unr (Wk.Fr ro) C.P b (PoE C w0 D (ρ ++ τ) N out) n a w → Unr (Wk.Fr ro) C.P b (PoE C w0 D ρ N out) n a w := by
            intro n
            induction n with
            | zero => intro a w hh; exact hh
            | succ n ih2 =>
              intro a w hh
              refine wpIn_mono hh (fun e a w hq => ?_)
              cases e with
              | normal => exact ih2 a w hq
              | _ => exact PoE.more hq
          exact mono n a w h5
        · obtain ⟨x', fm', s'⟩ := r
          cases x' <;> first | exact absurd rfl hn | (cases hb; rfl)
    exact wpIn_unr (key LF h H hb)
  | rangeFunc g ps asg body _ _ =>
    intro ρ fm s a w out h H hb
    simp only [codE] at hb
    cases hd : dok with
    | false => rw [hd] at hb; cases hb
    | true =>
      rw [hd, cond_true] at hb
      have hr := hro hd
      subst hr
      obtain ⟨v, hv, hb⟩ := Option.bind_eq_some_iff.1 hb
      exact rngE_spec hK h H hv hb
  | _ => intro ρ fm s a w out h H hb; cases hb
end
end Go.Ev

/- Functions, reckoned: how they begin and leave; rounds; the knot. -/
namespace Go.Ev
open Go.Wk
set_option linter.unusedVariables false
set_option linter.unusedSimpArgs false

section
variable {C : Ct} {w0 : World} {D : Nat → Prop} {N : Nat} {K : Cal} {LF : Nat}

/-! ### Results -/
def resL (C : Ct) (full : Bool) (s : St) (t : Tr Value) : List ResultVar → Option (List Value)
  | [] => some []
  | .tmp i :: r => match (match t.get i with | some v => some v | none => bif full then some undef else none), resL C full s t r with
    | some v, some vs => some (v :: vs)
    | _, _ => none
  | .cell i ty :: r => match (t.get i).bind (ldE C s ty), resL C full s t r with
    | some v, some vs => some (v :: vs)
    | _, _ => none
def resE (C : Ct) (full : Bool) (s : St) (t : Tr Value) (fn : Func) : Option Value := match resL C full s t fn.results.toList with
  | some [v] => some v
  | some vs => some (.tuple ⟨vs⟩)
  | none => none
def resOne (tmps : Array Value) : ResultVar → Sem Value
  | .tmp t => pure (tmps.getD t undef)
  | .cell a t => do loadVar t (← asAddr (tmps.getD a undef))
/-- What a frame that leaves must know: all slots that are no result's stay out. -/
def FrK (ρ : Env) (dflt : Bool) (fm : Fm) (a : Act) : Prop := (∀ i v, fm.t.get i = some v → ∃ u, conc ρ v = some u ∧ a.tmps.getD i undef = u) ∧ (dflt = true → ∀ i, fm.t.get i = none → a.tmps.getD i undef = undef)
theorem resL_run {ρ : Env} {full : Bool} {fm : Fm} {s : St} {a : Act} {w : World} (hk : FrK ρ full fm a) (H : Sr C w0 D ρ s w) : ∀ {rs : List ResultVar} {vs : List Value}, resL C full s fm.t rs = some vs → ∃ us, concs ρ vs = some us ∧ (rs.mapM (resOne a.tmps)).run C.P w = .ok us w
  | [], vs, h => by simp only [resL, Option.some.injEq] at h; subst h; exact ⟨[], concs_nil ρ, rfl⟩
  | .tmp i :: r, vs, h => by
    simp only [resL] at h
    split at h
    · rename_i v vs' h0 h1
      cases h
      obtain ⟨us, h2, h3⟩ := resL_run hk H h1
      have key : conc ρ v = some (a.tmps.getD i undef) := by
        split at h0
        · rename_i v' hq
          cases h0
          obtain ⟨u, g1, g2⟩ := hk.1 i v hq; rw [g2]; exact g1
        · rename_i hq
          cases hf : full with
          | false => rw [hf] at h0; cases h0
          | true => rw [hf] at h0; cases h0; rw [hk.2 hf i hq]; exact conc_undef ρ
      refine ⟨_, concs_cons.2 ⟨_, us, key, h2, rfl⟩, ?_⟩
      rw [List.mapM_cons]
      simp only [resOne, Sem.run_bind, run_pure', Result.andThen_ok, h3]
    · cases h
  | .cell i ty :: r, vs, h => by
    simp only [resL] at h
    split at h
    · rename_i v vs' h0 h1
      cases h
      obtain ⟨us, h2, h3⟩ := resL_run hk H h1
      obtain ⟨p, hp, hl⟩ := Option.bind_eq_some_iff.1 h0
      obtain ⟨p', g1, g2⟩ := hk.1 i p hp
      obtain ⟨u, q1, q2⟩ := ldE_run H g1 hl
      refine ⟨_, concs_cons.2 ⟨u, us, q1, h2, rfl⟩, ?_⟩
      rw [List.mapM_cons]
      have hload : (resOne a.tmps (.cell i ty)).run C.P w = .ok u w := by
        simp only [resOne, g2]
        unfold ldE at hl
        split at hl
        · simp only [conc, cA, Option.map_eq_some_iff] at g1
          obtain ⟨_, ⟨b', _, rfl⟩, rfl⟩ := g1
          exact q2
        · cases hl
      rw [Sem.run_bind, hload]
      simp only [Sem.run_bind, run_pure', Result.andThen_ok, h3]
    · cases h
theorem resE_run {ρ : Env} {full : Bool} {fm : Fm} {s : St} {a : Act} {w : World} {fn : Func} {v : Value} (hk : FrK ρ full fm a) (H : Sr C w0 D ρ s w) (h : resE C full s fm.t fn = some v) : ∃ u, conc ρ v = some u ∧ (results fn a.tmps).run C.P w = .ok u w := by
  unfold resE at h
  have hdef : results fn a.tmps = (do
      let vs ← fn.results.mapM (resOne a.tmps)
      pure (if h : vs.size = 1 then vs[0] else .tuple vs)) := by
    unfold results
    congr 1
  have hm : ∀ {us : List Value}, (fn.results.toList.mapM (resOne a.tmps)).run C.P w = .ok us w → (fn.results.mapM (resOne a.tmps)).run C.P w = .ok us.toArray w := fun {us} hh => by
    rw [Array.mapM_eq_mapM_toList]
    show ((fn.results.toList.mapM (resOne a.tmps)) >>= fun x => pure x.toArray : Sem (Array Value)).run C.P w = _
    rw [Sem.run_bind, hh]; rfl
  split at h
  · rename_i v' h1
    cases h
    obtain ⟨us, h2, h3⟩ := resL_run hk H h1
    obtain ⟨u, t, g1, g2, rfl⟩ := concs_cons.1 h2
    rw [concs_nil] at g2; cases g2
    refine ⟨u, g1, ?_⟩
    rw [hdef, Sem.run_bind, hm h3]
    rfl
  · rename_i vs hne h1
    cases h
    obtain ⟨us, h2, h3⟩ := resL_run hk H h1
    refine ⟨.tuple us.toArray, conc_tuple h2, ?_⟩
    rw [hdef, Sem.run_bind, hm h3, Result.andThen_ok]
    have hl : ¬ us.toArray.size = 1 := fun hh => by
      have h5 : vs.length = 1 := by rw [← concs_len h2]; simpa using hh
      match vs, h5 with
      | [x], _ => exact hne x rfl
    simp only [run_pure']
    rw [dif_neg hl]
  · cases h

/-! ### Leaving -/
inductive Md where
  | ret
  | pan (ch : List PanicEntry)
def MdR (ρ : Env) : Md → FrameMode → Prop
  | .ret, .returning => True
  | .pan ch, .panicking ch' => concCh ρ ch = some ch'
  | _, _ => False
theorem MdR.mono {ρ : Env} (τ : Env) {m : Md} {u : FrameMode} (h : MdR ρ m u) : MdR (ρ ++ τ) m u := by
  cases m <;> cases u <;> first | exact h | exact concCh_mono τ h
def setM : Md → Option Md
  | .ret => some .ret
  | .pan [] => some (.pan [])
  | .pan (e :: older) => bif e.recovered then (match older with
    | [] => some .ret
    | _ => none) else some (.pan (e :: older))
def raiM (m : Md) (ch : List PanicEntry) : Md := match m with
  | .ret => .pan ch
  | .pan old => .pan (ch ++ old)
theorem concCh_cons {ρ : Env} {e : PanicEntry} {r us : List PanicEntry} (h : concCh ρ (e :: r) = some us) : ∃ v t, conc ρ e.v = some v ∧ concCh ρ r = some t ∧ us = { e with v := v } :: t := by
  simp only [concCh] at h
  split at h
  · rename_i v t h1 h2; exact ⟨v, t, h1, h2, (Option.some.inj h).symm⟩
  · cases h
theorem concCh_app {ρ : Env} : ∀ {l m l' m' : List PanicEntry}, concCh ρ l = some l' → concCh ρ m = some m' → concCh ρ (l ++ m) = some (l' ++ m')
  | [], m, l', m', h, h' => by simp only [concCh, Option.some.injEq] at h; subst h; exact h'
  | e :: r, m, l', m', h, h' => by
    obtain ⟨v, t, h1, h2, rfl⟩ := concCh_cons h
    simp only [List.cons_append, concCh, h1, concCh_app h2 h']
theorem setM_spec {ρ : Env} {m m' : Md} {u : FrameMode} (h : MdR ρ m u) (hs : setM m = some m') : MdR ρ m' (settle u) := by
  cases m with
  | ret => cases hs; cases u <;> first | exact h.elim | exact trivial
  | pan ch =>
    cases u with
    | panicking ch' =>
      cases ch with
      | nil =>
        cases hs
        have h1 : concCh ρ [] = some ch' := h
        simp only [concCh, Option.some.injEq] at h1; subst h1
        exact h
      | cons e older =>
        obtain ⟨v, t, h1, h2, rfl⟩ := concCh_cons h
        simp only [setM] at hs
        cases hr : e.recovered with
        | true =>
          rw [hr, cond_true] at hs
          cases older with
          | nil =>
            cases hs
            simp only [concCh, Option.some.injEq] at h2; subst h2
            obtain ⟨ev, er, eg⟩ := e
            simp only at hr; subst hr
            show MdR ρ .ret (settle (.panicking [⟨v, true, eg⟩]))
            simp [settle, MdR]
          | cons e2 r2 => cases hs
        | false =>
          rw [hr, cond_false] at hs
          cases hs
          obtain ⟨ev, er, eg⟩ := e
          simp only at hr; subst hr
          show MdR ρ _ (settle (.panicking (⟨v, false, eg⟩ :: t)))
          simp only [settle]
          exact h
    | _ => exact h.elim
theorem raiM_spec {ρ : Env} {m : Md} {u : FrameMode} {ch ch' : List PanicEntry} (h : MdR ρ m u) (hc : concCh ρ ch = some ch') : MdR ρ (raiM m ch) (raised u ch') := by
  cases m with
  | ret => cases u <;> first | exact h.elim | exact hc
  | pan old => cases u <;> first | exact h.elim | exact concCh_app hc h

/-- A deferred call, as it is reckoned. -/
def DclOk (C : Ct) (dc : FuncId → List Value → Md → St → Option (Er × Md × St)) : Prop :=
  ∀ f args m s r m' s', dc f args m s = some (r, m', s') → (∃ fn, C.ft.get f = some fn ∧ fn.body.isSome = true) ∧ ∀ w0 D ρ w us u, Sr C w0 D ρ s w → concs ρ args = some us → MdR ρ m u →
    CallsDIn (Wk.Fr none) 0 C.P f us.toArray u w (fun e u' w' => ∃ τ, ErR (ρ ++ τ) r e ∧ MdR (ρ ++ τ) m' u' ∧ Sr C w0 D (ρ ++ τ) s' w')
def lvE (C : Ct) (dc : FuncId → List Value → Md → St → Option (Er × Md × St)) (full : Bool) (fn : Func) (t : Tr Value) : List Deferred → Md → St → Option (Er × St)
  | [], .ret, s => (resE C full s t fn).bind fun v => some (.ret v, s)
  | [], .pan ch, s => some (.pan ch, s)
  | ⟨.collected r, _⟩ :: ds, m, s => bif Nat.ble BB r then (match s.h.get (r - BB) with
    | some (.deferred (some [])) => (s.upd (r - BB) (some (.deferred none))).bind fun s' => lvE C dc full fn t ds m s'
    | _ => none) else none
  | ⟨.fn (.func k) cap, args⟩ :: ds, m, s => (dc k (args.toList ++ cap.toList) m s).bind fun q => match q.1 with
    | .ret _ => (setM q.2.1).bind fun m' => lvE C dc full fn t ds m' q.2.2
    | .pan ch => lvE C dc full fn t ds (raiM q.2.1 ch) q.2.2
  | _, _, _ => none
theorem leavesM_mono {F : Fence} {n : Nat} {P : Program} {fn : Func} {tmps : Array Value} {R R' : Ending → World → Prop} (hR : ∀ e w, R e w → R' e w) : ∀ {ds : List Deferred} {u : FrameMode} {w : World}, LeavesInM F n P fn tmps R ds u w → LeavesInM F n P fn tmps R' ds u w
  | [], u, w, h => by
    cases u with
    | run => exact h.elim
    | returning => obtain ⟨v, h1, h2⟩ := h; exact ⟨v, h1, hR _ _ h2⟩
    | panicking ch => exact hR _ _ h
  | d :: ds, u, w, h => by
    refine ⟨h.1, ?_⟩
    rcases h.2 with ⟨r, w', h1, h2, h3⟩ | ⟨hn, fv, cap, f, args, h1, h2, h3, h4⟩
    · exact .inl ⟨r, w', h1, h2, leavesM_mono hR h3⟩
    · exact .inr ⟨hn, fv, cap, f, args, h1, h2, h3, CallsDIn.mono h4 (fun e u' w' he => by
        cases e with
        | returned v => exact leavesM_mono hR he
        | panicked ch => exact leavesM_mono hR he
        | outgrown => exact hR _ _ he)⟩
theorem lvE_spec {dc : FuncId → List Value → Md → St → Option (Er × Md × St)} (hdc : DclOk C dc) {full : Bool} {fn : Func} {r : Er} {s' : St} : ∀ {ds : List Deferred} {ρ : Env} {fm : Fm} {m : Md} {s : St} {a : Act} {w : World} {ds' : List Deferred} {u : FrameMode}, FrK ρ full fm a → Sr C w0 D ρ s w → concDs ρ ds = some ds' → MdR ρ m u → lvE C dc full fn fm.t ds m s = some (r, s') →
    LeavesInM (Wk.Fr none) 0 C.P fn a.tmps (fun e w' => ∃ τ, ErR (ρ ++ τ) r e ∧ Sr C w0 D (ρ ++ τ) s' w') ds' u w := by
  intro ds
  induction ds with
  | nil =>
    intro ρ fm m s a w ds' u hk H hd hm hb
    simp only [concDs, Option.some.injEq] at hd; subst hd
    cases m with
    | ret =>
      cases u with
      | returning =>
        simp only [lvE] at hb
        obtain ⟨v, hv, hb⟩ := Option.bind_eq_some_iff.1 hb
        cases hb
        obtain ⟨u, h1, h2⟩ := resE_run hk H hv
        exact ⟨u, h2, [], by rw [List.append_nil]; exact h1, by rw [List.append_nil]; exact H⟩
      | _ => exact hm.elim
    | pan ch =>
      cases u with
      | panicking ch' =>
        simp only [lvE, Option.some.injEq, Prod.mk.injEq] at hb
        obtain ⟨rfl, rfl⟩ := hb
        exact ⟨[], by rw [List.append_nil]; exact hm, by rw [List.append_nil]; exact H⟩
      | _ => exact hm.elim
  | cons d ds ih =>
    intro ρ fm m s a w ds' u hk H hd hm hb
    simp only [concDs] at hd
    split at hd
    · rename_i d' ds2 hd1 hd2
      cases hd
      have hu : u ≠ .run := fun hh => by subst hh; cases m <;> exact hm.elim
      refine ⟨hu, ?_⟩
      obtain ⟨tg, args⟩ := d
      have mono : ∀ {τ : Env} {ds3 : List Deferred} {u3 : FrameMode} {w3 : World}, LeavesInM (Wk.Fr none) 0 C.P fn a.tmps (fun e w' => ∃ σ, ErR ((ρ ++ τ) ++ σ) r e ∧ Sr C w0 D ((ρ ++ τ) ++ σ) s' w') ds3 u3 w3 → LeavesInM (Wk.Fr none) 0 C.P fn a.tmps (fun e w' => ∃ τ, ErR (ρ ++ τ) r e ∧ Sr C w0 D (ρ ++ τ) s' w') ds3 u3 w3 := by
        intro τ ds3 u3 w3 hh
        refine leavesM_mono ?_ hh
        rintro e w' ⟨σ, g1, g2⟩
        rw [List.append_assoc] at g1 g2
        exact ⟨τ ++ σ, g1, g2⟩
      cases tg with
      | collected q =>
        simp only [concD] at hd1
        split at hd1
        · rename_i q' args' hq hargs
          cases hd1
          simp only [lvE] at hb
          cases hbb : Nat.ble BB q with
          | false => rw [hbb] at hb; cases hb
          | true =>
            rw [hbb, cond_true] at hb
            obtain ⟨L, hL, rfl⟩ := cad_own hbb hq
            generalize q - BB = kk at hb hL
            split at hb
            · rename_i hkk
              obtain ⟨s1, hs1, hb⟩ := Option.bind_eq_some_iff.1 hb
              obtain ⟨L2, o', q1, q2, q3⟩ := H.holds _ _ hkk
              rw [hL] at q1; cases q1
              have ho : o' = .deferred (some []) := by
                have h9 : (concDs ρ []).map (fun ds' => Obj.deferred (some ds')) = some o' := q2
                simp only [concDs, Option.map_some, Option.some.injEq] at h9
                exact h9.symm
              subst ho
              have hg := run_getObj (P := C.P) q3 (by intro c e f hh; cases hh)
              have hset := run_setObj (P := C.P) q3 (by intro c e f hh; cases hh) (.deferred none)
              have hlt := (Array.getElem?_eq_some_iff.1 q3).1
              have H1 : Sr C w0 D ρ s1 { w with heap := w.heap.setIfInBounds L.ad (.deferred none) } := by
                refine H.write hkk hL (o' := .deferred none) rfl hs1 (by simp [hlt]) (fun z _ hz => ?_) (by simp) rfl rfl rfl
                show (w.heap.setIfInBounds L.ad _)[z]? = _
                rw [Array.getElem?_setIfInBounds_ne (Ne.symm hz)]
              refine .inl ⟨L.ad, _, rfl, ?_, ih hk H1 hd2 hm hb⟩
              simp only [Instr.takeDeferred, Sem.run_bind, hg, Result.andThen_ok, hset, run_pure']
            · cases hb
        · cases hd1
      | fn f cap =>
        simp only [concD] at hd1
        split at hd1
        · rename_i f' cap' args' hf hcap hargs
          cases hd1
          cases f with
          | func k =>
            simp only [cfn, Option.some.injEq] at hf; subst hf
            simp only [lvE] at hb
            obtain ⟨q, hq, hb⟩ := Option.bind_eq_some_iff.1 hb
            obtain ⟨e, m1, s1⟩ := q
            obtain ⟨⟨fnn, hfn1, hfn2⟩, hcall⟩ := hdc _ _ _ _ _ _ _ hq
            have hall := concs_app (concA_iff.1 hargs) (concA_iff.1 hcap)
            have hC := hcall w0 D ρ w _ u H hall hm
            refine .inr ⟨fun hh => by simp [Fence.wide] at hh, .func k, cap', k, (args'.toList ++ cap'.toList).toArray, rfl, ?_, (fun _ _ => trivial), ?_⟩
            · show (callFunc k (args' ++ cap')).run C.P w = _
              have e1 : args' ++ cap' = (args'.toList ++ cap'.toList).toArray := by apply Array.ext'; simp
              rw [e1]; exact callFunc_enter hfn1 hfn2 _ _
            · refine CallsDIn.mono hC ?_
              rintro e' u' w' ⟨τ, g1, g2, g3⟩
              have hk' : FrK (ρ ++ τ) full fm a := ⟨fun i v hi => let ⟨x, h1, h2⟩ := hk.1 i v hi; ⟨x, conc_mono τ h1, h2⟩, hk.2⟩
              cases e with
              | ret vv =>
                cases e' with
                | returned uu =>
                  simp only at hb
                  obtain ⟨m2, hm2, hb⟩ := Option.bind_eq_some_iff.1 hb
                  exact mono (ih hk' g3 (concDs_mono τ hd2) (setM_spec g2 hm2) hb)
                | _ => exact g1.elim
              | pan ch =>
                cases e' with
                | panicked ch' =>
                  simp only at hb
                  exact mono (ih hk' g3 (concDs_mono τ hd2) (raiM_spec g2 g1) hb)
                | _ => exact g1.elim
          | _ => cases hb
        · cases hd1
      | _ => cases hd1
    · cases hd
end
end Go.Ev

/- Functions, deferred calls, rounds; the knot. -/
namespace Go.Ev
open Go.Wk
set_option linter.unusedVariables false
set_option linter.unusedSimpArgs false

def iniE : List Value → Nat → Tr Value → Option (Tr Value)
  | [], _, t => some t
  | v :: r, i, t => bif Nat.blt (Nat.succ i) TOP then iniE r (Nat.succ i) (t.set i (some v)) else none
theorem iniE_spec : ∀ {l : List Value} {i : Nat} {t t' : Tr Value}, iniE l i t = some t' → ∀ j, t'.get j = if i ≤ j ∧ j < i + l.length then l[j - i]? else t.get j
  | [], i, t, t', h, j => by
    simp only [iniE, Option.some.injEq] at h; subst h
    rw [if_neg (by intro hh; simp only [List.length_nil, Nat.add_zero] at hh; omega)]
  | v :: r, i, t, t', h, j => by
    simp only [iniE] at h
    cases hb : Nat.blt (Nat.succ i) TOP with
    | false => rw [hb] at h; cases h
    | true =>
      rw [hb, cond_true] at h
      rw [iniE_spec h j, Tr.get_set _ hb]
      simp only [List.length_cons]
      by_cases h1 : j = i
      · subst h1
        rw [if_neg (by omega), if_pos rfl, if_pos (by omega), Nat.sub_self]; rfl
      · by_cases h2 : i ≤ j ∧ j < i + (r.length + 1)
        · rw [if_pos (by omega), if_pos h2, show j - i = (j - Nat.succ i) + 1 from by omega, List.getElem?_cons_succ]
        · rw [if_neg (by omega), if_neg h1, if_neg h2]

section
variable {C : Ct} {w0 : World} {D : Nat → Prop} {K : Cal} {LF : Nat}

/-- A frame whose slots are a row's. -/
theorem Fr.ini {ρ : Env} {l us : List Value} {t : Tr Value} {tmps : Array Value} {N : Nat} (hl : concs ρ l = some us) (hi : iniE l 0 .e = some t) (hs : tmps.size = N) (hle : us.length ≤ N) (ht : ∀ i, tmps.getD i undef = (us[i]?).getD undef) : Fr ρ N ⟨N, t, []⟩ { tmps := tmps, defers := [] } := by
  have hg : ∀ j, t.get j = l[j]? := fun j => by
    rw [iniE_spec hi j]
    by_cases hj : j < l.length
    · rw [if_pos (by omega), Nat.sub_zero]
    · rw [if_neg (by omega), List.getElem?_eq_none (by omega)]; rfl
  refine ⟨rfl, hs, fun i v hv => ?_, fun i hn => ?_, rfl⟩
  · simp only at hv
    rw [hg] at hv
    obtain ⟨u, h1, h2⟩ := concs_get hl hv
    refine ⟨u, h2, ?_⟩
    show tmps.getD i undef = u
    rw [ht, h1]; rfl
  · simp only at hn
    rw [hg] at hn
    show tmps.getD i undef = undef
    rw [ht, List.getElem?_eq_none (by rw [concs_len hl]; exact List.getElem?_eq_none_iff.1 hn)]; rfl
theorem Fr.enter {ρ : Env} {l us : List Value} {t : Tr Value} {N : Nat} (hl : concs ρ l = some us) (hi : iniE l 0 .e = some t) (hle : l.length ≤ N) : Fr ρ N ⟨N, t, []⟩ { tmps := us.toArray ++ Array.replicate (N - us.toArray.size) undef, defers := [] } := by
  have hll := concs_len hl
  refine Fr.ini hl hi (by simp; omega) (by omega) (fun i => ?_)
  simp only [Array.getD_eq_getD_getElem?]
  by_cases h1 : i < us.length
  · rw [Array.getElem?_append_left (by simpa using h1)]; simp
  · rw [Array.getElem?_append_right (by simpa using h1), List.getElem?_eq_none (by omega)]
    simp only [Array.getElem?_replicate]
    split <;> rfl

abbrev Dcl := FuncId → List Value → Md → St → Option (Er × Md × St)
def fnE (C : Ct) (K : Cal) (dc : Dcl) (LF : Nat) (f : FuncId) (args : List Value) (s : St) : Option (Er × St) := (C.ft.get f).bind fun fn => fn.body.bind fun c => bif Nat.ble args.length fn.ntmps then (iniE args 0 .e).bind fun t => (codE C K true LF c ⟨fn.ntmps, t, []⟩ s).bind fun r => (match r.1 with
    | .norm => lvE C dc true fn r.2.1.t r.2.1.ds .ret r.2.2
    | .ret => lvE C dc true fn r.2.1.t r.2.1.ds .ret r.2.2
    | .pan ch => lvE C dc false fn r.2.1.t r.2.1.ds (.pan ch) r.2.2
    | _ => none) else none
theorem fnE_spec (hK : CalOk C K) {dc : Dcl} (hdc : DclOk C dc) {f : FuncId} {args : List Value} {s s' : St} {r : Er} (hb : fnE C K dc LF f args s = some (r, s')) :
    (∃ fn, C.ft.get f = some fn ∧ fn.body.isSome = true) ∧ ∀ w0 D ρ w us, Sr C w0 D ρ s w → concs ρ args = some us → Calls C.P f us.toArray w (fun e w' => ∃ τ, ErR (ρ ++ τ) r e ∧ Sr C w0 D (ρ ++ τ) s' w') := by
  unfold fnE at hb
  obtain ⟨fn, hfn, hb⟩ := Option.bind_eq_some_iff.1 hb
  obtain ⟨c, hc, hb⟩ := Option.bind_eq_some_iff.1 hb
  cases hle : Nat.ble args.length fn.ntmps with
  | false => rw [hle] at hb; cases hb
  | true =>
    rw [hle, cond_true] at hb
    obtain ⟨t, ht, hb⟩ := Option.bind_eq_some_iff.1 hb
    obtain ⟨q, hq, hb⟩ := Option.bind_eq_some_iff.1 hb
    refine ⟨⟨fn, hfn, by rw [hc]; rfl⟩, fun w0 D ρ w us H hus => ?_⟩
    refine callsIn_wide.1 (callsIn_of_wp_marks (F := Fence.wide) (n := 0) (C.okF f fn hfn).1 hc trivial ?_)
    have hfr := Fr.enter hus ht (Nat.le_of_ble_eq_true hle)
    have hcode := codE_spec (ro := none) (dok := true) hK (fun _ => rfl) hfr H hq
    obtain ⟨x, fm, s1⟩ := q
    refine wpIn_mono hcode (fun e a w1 hp => ?_)
    obtain ⟨τ, h1, h2, h3, h4⟩ := hp
    have post : ∀ {m : Md} {u : FrameMode} {full : Bool}, FrK (ρ ++ τ) full fm a → concDs (ρ ++ τ) fm.ds = some a.defers → MdR (ρ ++ τ) m u → lvE C dc full fn fm.t fm.ds m s1 = some (r, s') → LeavesInM Fence.wide 0 C.P fn a.tmps (fun e w' => ∃ τ, ErR (ρ ++ τ) r e ∧ Sr C w0 D (ρ ++ τ) s' w') a.defers u w1 := by
      intro m u full hk hd hm hl
      refine leavesM_mono ?_ (lvE_spec hdc hk h4 hd hm hl)
      rintro e w' ⟨σ, g1, g2⟩
      rw [List.append_assoc] at g1 g2
      exact ⟨τ ++ σ, g1, g2⟩
    cases x with
    | norm =>
      cases e with
      | normal => have hf := h3 rfl; exact post ⟨hf.kn, fun _ => hf.un⟩ hf.ds (m := .ret) trivial hb
      | _ => exact h1.elim
    | ret =>
      cases e with
      | ret => have hf := h3 rfl; exact post ⟨hf.kn, fun _ => hf.un⟩ hf.ds (m := .ret) trivial hb
      | _ => exact h1.elim
    | pan ch =>
      cases e with
      | panic ch' => have hf := h2 rfl; exact post ⟨hf.kn, (fun hh => by cases hh)⟩ hf.ds (m := .pan ch) h1 hb
      | _ => exact h1.elim
    | exit j => cases hb
    | goto j => cases hb

/-! ### Deferred calls -/
def recM : Md → Value × Md
  | .pan (⟨v, false, false⟩ :: older) => (v, .pan (⟨v, true, false⟩ :: older))
  | m => (.nilIface, m)
def outD (C : Ct) (fn : Func) (m : Md) (r : Ex × Fm × St) : Option (Er × Md × St) := match r.2.1.ds with
  | [] => (match r.1 with
    | .norm => (resE C true r.2.2 r.2.1.t fn).bind fun v => some (.ret v, m, r.2.2)
    | .ret => (resE C true r.2.2 r.2.1.t fn).bind fun v => some (.ret v, m, r.2.2)
    | .pan ch => some (.pan ch, m, r.2.2)
    | _ => none)
  | _ => none
def recO : Code → Option (Nat × Code)
  | .seq (.region _ ⟨[⟨some d, .call ⟨.builtin .recover, ⟨[]⟩, _⟩, _, _, _, none⟩]⟩ false) rest => some (d, rest)
  | _ => none
def dclE (C : Ct) (K : Cal) (LF : Nat) : Dcl := fun f args m s => (C.ft.get f).bind fun fn => fn.body.bind fun c => bif Nat.ble args.length fn.ntmps then (iniE args 0 .e).bind fun t => (match recO c with
    | some (d, rest) => (Fm.put ⟨fn.ntmps, t, []⟩ (some d) (recM m).1).bind fun fm => (codE C K true LF rest fm s).bind (outD C fn (recM m).2)
    | none => (codE C K true LF c ⟨fn.ntmps, t, []⟩ s).bind (outD C fn m)) else none
theorem outD_spec {fn : Func} {m m' : Md} {x : Ex × Fm × St} {r : Er} {s' : St} {ρ : Env} {N : Nat} {e : Exit} {a : Act} {w : World} (hp : PoE C w0 D ρ N x e a w) (ho : outD C fn m x = some (r, m', s')) :
    m' = m ∧ ∃ τ, a.defers = [] ∧ Sr C w0 D (ρ ++ τ) s' w ∧ ((∃ v u, r = .ret v ∧ (e = .normal ∨ e = .ret) ∧ conc (ρ ++ τ) v = some u ∧ (results fn a.tmps).run C.P w = .ok u w) ∨ (∃ ch ch', r = .pan ch ∧ e = .panic ch' ∧ concCh (ρ ++ τ) ch = some ch')) := by
  obtain ⟨τ, h1, h2, h3, h4⟩ := hp
  obtain ⟨y, fm, s1⟩ := x
  obtain ⟨N', t, ds⟩ := fm
  cases ds with
  | cons d ds => cases ho
  | nil =>
    have hds : ∀ {us : List Deferred}, concDs (ρ ++ τ) [] = some us → us = [] := fun hd => by simpa [concDs] using hd.symm
    cases y with
    | norm =>
      cases e with
      | normal =>
        simp only [outD] at ho
        obtain ⟨v, hv, ho⟩ := Option.bind_eq_some_iff.1 ho
        cases ho
        have hf := h3 rfl
        obtain ⟨u, g1, g2⟩ := resE_run (fm := ⟨N', t, []⟩) ⟨hf.kn, fun _ => hf.un⟩ h4 hv
        exact ⟨rfl, τ, hds hf.ds, h4, .inl ⟨v, u, rfl, .inl rfl, g1, g2⟩⟩
      | _ => exact h1.elim
    | ret =>
      cases e with
      | ret =>
        simp only [outD] at ho
        obtain ⟨v, hv, ho⟩ := Option.bind_eq_some_iff.1 ho
        cases ho
        have hf := h3 rfl
        obtain ⟨u, g1, g2⟩ := resE_run (fm := ⟨N', t, []⟩) ⟨hf.kn, fun _ => hf.un⟩ h4 hv
        exact ⟨rfl, τ, hds hf.ds, h4, .inl ⟨v, u, rfl, .inr rfl, g1, g2⟩⟩
      | _ => exact h1.elim
    | pan ch =>
      cases e with
      | panic ch' =>
        simp only [outD] at ho
        cases ho
        have hf := h2 rfl
        exact ⟨rfl, τ, hds hf.ds, h4, .inr ⟨_, ch', rfl, rfl, h1⟩⟩
      | _ => exact h1.elim
    | _ => cases ho
theorem dclE_spec (hK : CalOk C K) : DclOk C (dclE C K LF) := by
  intro f args m s r m' s' hb
  unfold dclE at hb
  obtain ⟨fn, hfn, hb⟩ := Option.bind_eq_some_iff.1 hb
  obtain ⟨c, hc, hb⟩ := Option.bind_eq_some_iff.1 hb
  cases hle : Nat.ble args.length fn.ntmps with
  | false => rw [hle] at hb; cases hb
  | true =>
    rw [hle, cond_true] at hb
    obtain ⟨t, ht, hb⟩ := Option.bind_eq_some_iff.1 hb
    refine ⟨⟨fn, hfn, by rw [hc]; rfl⟩, fun w0 D ρ w us u H hus hm => ?_⟩
    have hfr := Fr.enter hus ht (Nat.le_of_ble_eq_true hle)
    split at hb
    · rename_i d rest hrec
      obtain ⟨fm, hfm, hb4⟩ := Option.bind_eq_some_iff.1 hb
      obtain ⟨q, hq, hob⟩ := Option.bind_eq_some_iff.1 hb4
      clear hb hb4
      unfold recO at hrec
      split at hrec
      · rename_i hq1 ats tyy pp af hq2
        cases hrec
        refine callsDIn_of_wpSIn (F := Wk.Fr none) (n := 0) (C.okF f fn hfn).1 hc trivial (fun c₀ cs hmode => ?_)
        refine wpSIn_seq (wpSIn_region ?_)
        have hrecv : ∀ (a : Act), (execOp a.eval ⟨some d, .call ⟨.builtin .recover, ⟨[]⟩, ats⟩, tyy, pp, af, none⟩).run C.P w = .ok .recover w := fun a => rfl
        have key : ∃ u0 c1, conc ρ (recM m).1 = some u0 ∧ MdR ρ (recM m).2 c1.mode ∧ c1 = { c₀ with mode := c1.mode } ∧ ((recoverD (c₀ :: cs) = some (u0, c1 :: cs)) ∨ (recoverD (c₀ :: cs) = none ∧ u0 = .nilIface ∧ c1 = c₀)) := by
          have hm' : MdR ρ m c₀.mode := by rw [hmode]; exact hm
          have plain : ∀ {m0 : Md}, m0 = m → recM m = (.nilIface, m) → recoverD (c₀ :: cs) = none → _ := fun _ h5 h6 => (⟨.nilIface, c₀, by rw [h5]; simp [conc], by rw [h5]; exact hm', rfl, .inr ⟨h6, rfl, rfl⟩⟩ : ∃ u0 c1, conc ρ (recM m).1 = some u0 ∧ MdR ρ (recM m).2 c1.mode ∧ c1 = { c₀ with mode := c1.mode } ∧ ((recoverD (c₀ :: cs) = some (u0, c1 :: cs)) ∨ (recoverD (c₀ :: cs) = none ∧ u0 = .nilIface ∧ c1 = c₀)))
          cases m with
          | ret =>
            refine plain rfl rfl ?_
            cases hu : c₀.mode with
            | returning => simp [recoverD, hu]
            | run => rw [hu] at hm'; exact hm'.elim
            | panicking ch => rw [hu] at hm'; exact hm'.elim
          | pan ch =>
            cases hu : c₀.mode with
            | returning => rw [hu] at hm'; exact hm'.elim
            | run => rw [hu] at hm'; exact hm'.elim
            | panicking ch' =>
              have hm2 : concCh ρ ch = some ch' := by rw [hu] at hm'; exact hm'
              cases ch with
              | nil =>
                refine plain rfl rfl ?_
                simp only [concCh, Option.some.injEq] at hm2; subst hm2
                simp [recoverD, hu]
              | cons e older =>
                obtain ⟨v', t', g1, g2, rfl⟩ := concCh_cons hm2
                obtain ⟨ev, er, eg⟩ := e
                cases er with
                | true => refine plain rfl rfl ?_; simp [recoverD, hu]
                | false =>
                  cases eg with
                  | true => refine plain rfl rfl ?_; simp [recoverD, hu]
                  | false =>
                    refine ⟨v', { c₀ with mode := .panicking (⟨v', true, false⟩ :: t') }, g1, ?_, rfl, .inl ?_⟩
                    · show concCh ρ (⟨ev, true, false⟩ :: older) = some (⟨v', true, false⟩ :: t')
                      simp only [concCh, g2]
                      simp only at g1
                      rw [g1]
                    · simp [recoverD, hu]
        obtain ⟨u0, c1, g1, g2, g3, g4⟩ := key
        have rest_ok : rest.wpSIn (Wk.Fr none) 0 C.P (bodyPostS C.P fn c₀ cs (fun e u' w' => ∃ τ, ErR (ρ ++ τ) r e ∧ MdR (ρ ++ τ) m' u' ∧ Sr C w0 D (ρ ++ τ) s' w')) (Act.put { tmps := us.toArray ++ Array.replicate (fn.ntmps - us.toArray.size) undef, defers := [] } (some d) u0) (c1 :: cs) w := by
          refine wpSIn_of_wpIn rfl (wpIn_mono (codE_spec (ro := none) (dok := true) hK (fun _ => rfl) (hfr.put g1 hfm) H hq) (fun e a w1 hp => ?_))
          obtain ⟨hmm, τ, hd, hs, hor⟩ := outD_spec hp hob
          subst hmm
          rcases hor with ⟨v, uu, rfl, he, hv, hr⟩ | ⟨ch, ch', rfl, rfl, hch⟩
          · rcases he with rfl | rfl <;> exact ⟨hd, c1.mode, by rw [← g3], uu, hr, τ, hv, g2.mono τ, hs⟩
          · exact ⟨hd, c1.mode, by rw [← g3], τ, hch, g2.mono τ, hs⟩
        show wpOpsSIn (Wk.Fr none) 0 C.P _ _ [0] _ _ _
        unfold wpOpsSIn
        simp only [List.getElem?_toArray, List.getElem?_cons_zero]
        refine ⟨fun _ _ => trivial, ?_⟩
        simp only [Region.wanted, if_true, hrecv]
        rcases g4 with g4 | ⟨g4, rfl, rfl⟩
        · rw [g4]
          exact rest_ok
        · rw [g4]
          exact rest_ok
      · cases hrec
    · obtain ⟨q, hq, hob⟩ := Option.bind_eq_some_iff.1 hb
      refine CallsDIn.mono (callsDIn_of_wp (F := Wk.Fr none) (n := 0) (u := u) (R := fun e w' => ∃ τ, ErR (ρ ++ τ) r e ∧ m' = m ∧ Sr C w0 D (ρ ++ τ) s' w') (C.okF f fn hfn).1 hc trivial ?_) ?_
      · refine wpIn_mono (codE_spec (ro := none) (dok := true) hK (fun _ => rfl) hfr H hq) (fun e a w1 hp => ?_)
        obtain ⟨hmm, τ, hd, hs, hor⟩ := outD_spec hp hob
        rcases hor with ⟨v, uu, rfl, he, hv, hr⟩ | ⟨ch, ch', rfl, rfl, hch⟩
        · rcases he with rfl | rfl <;> exact ⟨hd, uu, hr, τ, hv, hmm, hs⟩
        · exact ⟨hd, τ, hch, hmm, hs⟩
      · rintro e u' w' ⟨rfl, τ, h1, rfl, h3⟩
        exact ⟨τ, h1, hm.mono τ, h3⟩
end
end Go.Ev

/- Rounds; the knot; a closed call, reckoned. -/
namespace Go.Ev
open Go.Wk
set_option linter.unusedVariables false
set_option linter.unusedSimpArgs false

def zipE : List Tmp → List Value → Fm → Option Fm
  | p :: ps, v :: vs, fm => (fm.put (some p) v).bind (zipE ps vs)
  | _, _, fm => some fm
def isRdy : LoopState → Bool
  | .ready => true
  | _ => false
def endE (k : Nat) (s : St) (j : Option Code) : Option (Er × St) := match s.h.get k with
  | some (.loop lp) => (s.upd k (some (.loop { lp with state := bif j.isNone then .ready else .done, pending := j }))).bind fun s' => some (.ret (.bool j.isNone), s')
  | _ => none
def rndE (k : Nat) (r : Ex × Fm × St) : Option (Er × St) := match r.1 with
  | .norm => endE k r.2.2 none
  | .ret => endE k r.2.2 (some .ret)
  | .exit i => endE k r.2.2 (some (.exit i))
  | _ => none
def busE (k : Nat) (s : St) : Option St := match s.h.get k with
  | some (.loop lp) => bif isRdy lp.state then s.upd k (some (.loop { lp with state := .busy })) else none
  | _ => none
def nrmE (r : Ex × Fm × St) : Option (Fm × St) := match r.1 with
  | .norm => some r.2
  | _ => none
def yl1 (C : Ct) (K : Cal) (LF : Nat) (k : Nat) (lp : Loop) (args : List Value) (s : St) : Option (Er × St) :=
  bif Nat.beq args.length lp.params.toList.length then
    (iniE lp.tmps.toList 0 .e).bind fun t => (zipE lp.params.toList args ⟨lp.tmps.toList.length, t, []⟩).bind fun fm =>
    (codE C K false LF lp.assign fm s).bind fun r => (nrmE r).bind fun q => (busE k q.2).bind fun s1 => (codE C K false LF lp.body q.1 s1).bind fun r2 => rndE k r2
  else none
def ylE (C : Ct) (K : Cal) (LF : Nat) (l : Nat) (args : List Value) (s : St) : Option (Er × St) := bif Nat.ble BB l then (match s.h.get (l - BB) with
  | some (.loop lp) => yl1 C K LF (l - BB) lp args s
  | _ => none) else none

section
variable {C : Ct} {w0 : World} {D : Nat → Prop} {N : Nat} {K : Cal} {LF : Nat}

theorem zipE_spec {ρ : Env} : ∀ {ps : List Tmp} {vs us : List Value} {fm fm' : Fm} {a : Act}, Fr ρ N fm a → concs ρ vs = some us → zipE ps vs fm = some fm' → Fr ρ N fm' { a with tmps := (ps.zip us).foldl (fun t (q : Tmp × Value) => t.setIfInBounds q.1 q.2) a.tmps }
  | [], vs, us, fm, fm', a, h, hv, hz => by
    cases vs <;> (simp only [zipE, Option.some.injEq] at hz; subst hz; simpa using h)
  | p :: ps, [], us, fm, fm', a, h, hv, hz => by
    rw [concs_nil] at hv; cases hv
    simp only [zipE, Option.some.injEq] at hz; subst hz; simpa using h
  | p :: ps, v :: vs, us, fm, fm', a, h, hv, hz => by
    obtain ⟨u, t, g1, g2, rfl⟩ := concs_cons.1 hv
    simp only [zipE] at hz
    obtain ⟨fm1, hf1, hz⟩ := Option.bind_eq_some_iff.1 hz
    have h1 := h.put g1 hf1
    have h2 := zipE_spec h1 g2 hz
    simpa [Act.put] using h2
theorem upd_loop {ρ : Env} {s : St} {w : World} {k : Nat} {L : Loc} {lp : Loop} (H : Sr C w0 D ρ s w) (hk : s.h.get k = some (.loop lp)) (hL : lcE ρ k = some L) :
    ∃ t d, concA ρ lp.tmps = some t ∧ cad ρ lp.defers = some d ∧ w.heap[L.ad]? = some (.loop { lp with tmps := t, defers := d, fn := L.cap }) ∧
      ∀ st pe s', s.upd k (some (.loop { lp with state := st, pending := pe })) = some s' → Sr C w0 D ρ s' (w.putObj L.ad (.loop { { lp with tmps := t, defers := d, fn := L.cap } with state := st, pending := pe })) := by
  obtain ⟨L2, o', q1, q2, q3⟩ := H.holds _ _ hk
  rw [hL] at q1; cases q1
  obtain ⟨t, d, q4, q5, rfl⟩ := concO_loop q2
  refine ⟨t, d, q4, q5, q3, fun st pe s' hs => ?_⟩
  have hlt := (Array.getElem?_eq_some_iff.1 q3).1
  refine H.write hk hL (concO_mkloop (lp := { lp with state := st, pending := pe }) q4 q5) hs (World.putObj_heap_same hlt) (fun z _ hz => World.putObj_heap_other hz) (by simp [World.putObj]) rfl rfl rfl
theorem endE_spec {ρ : Env} {s s' : St} {w : World} {k : Nat} {L : Loc} {j : Option Code} {r : Er} (H : Sr C w0 D ρ s w) (hL : lcE ρ k = some L) (h : endE k s j = some (r, s')) :
    ∃ v w', (Instr.endRound L.ad j).run C.P w = .ok v w' ∧ ErR ρ r (.returned v) ∧ Sr C w0 D ρ s' w' := by
  unfold endE at h
  split at h
  · rename_i lp hk
    obtain ⟨s1, hs1, h⟩ := Option.bind_eq_some_iff.1 h
    cases h
    obtain ⟨t, d, q4, q5, q3, hup⟩ := upd_loop H hk hL
    refine ⟨_, _, run_endRound j q3, ?_, ?_⟩
    · show conc ρ (.bool j.isNone) = some (.bool j.isNone)
      simp [conc]
    · have h5 := hup _ _ _ hs1
      cases j <;> exact h5
  · cases h
theorem rndE_spec {ρ ρ' : Env} {k : Nat} {L : Loc} {r : Er} {s' : St} {x : Ex × Fm × St} {e : Exit} {a : Act} {w : World} (hp : PoE C w0 D ρ N x e a w) (hL : lcE ρ k = some L) (h : rndE k x = some (r, s'))
    (hm : ∀ τ (e : Ending) w', ErR (ρ ++ τ) r e → Sr C w0 D (ρ ++ τ) s' w' → ∃ σ, ErR (ρ' ++ σ) r e ∧ Sr C w0 D (ρ' ++ σ) s' w') :
    roundPost C.P L.ad (fun e w' => ∃ τ, ErR (ρ' ++ τ) r e ∧ Sr C w0 D (ρ' ++ τ) s' w') e a w := by
  obtain ⟨τ, h1, h2, h3, h4⟩ := hp
  obtain ⟨y, fm, s⟩ := x
  have hL' : lcE (ρ ++ τ) k = some L := lcE_app _ hL
  cases y with
  | norm =>
    cases e with
    | normal =>
      obtain ⟨v, w', g1, g2, g3⟩ := endE_spec h4 hL' h
      exact ⟨v, w', g1, hm _ _ _ g2 g3⟩
    | _ => exact h1.elim
  | ret =>
    cases e with
    | ret =>
      obtain ⟨v, w', g1, g2, g3⟩ := endE_spec h4 hL' h
      exact ⟨v, w', g1, hm _ _ _ g2 g3⟩
    | _ => exact h1.elim
  | exit i =>
    cases e with
    | exit j =>
      have hj : i = j := h1
      subst hj
      obtain ⟨v, w', g1, g2, g3⟩ := endE_spec h4 hL' h
      exact ⟨v, w', g1, hm _ _ _ g2 g3⟩
    | _ => exact h1.elim
  | goto i => cases h
  | pan ch => cases h
theorem ylE_spec (hK : CalOk C K) {l : Nat} {args : List Value} {s s' : St} {r : Er} (hb : ylE C K LF l args s = some (r, s')) : ∀ w0 D ρ w l' us, Sr C w0 D ρ s w → cad ρ l = some l' → concs ρ args = some us →
    ∃ f tmps assign body, (Instr.yield l' us.toArray).run C.P w = .ok (.round l' f tmps assign body) w ∧ RoundIn (Wk.Fr none) 0 C.P l' f tmps assign body w (fun e w' => ∃ τ, ErR (ρ ++ τ) r e ∧ Sr C w0 D (ρ ++ τ) s' w') := by
  intro w0 D ρ w l' us H hl hus
  unfold ylE at hb
  cases hbb : Nat.ble BB l with
  | false => rw [hbb] at hb; cases hb
  | true =>
    rw [hbb, cond_true] at hb
    obtain ⟨L, hL, rfl⟩ := cad_own hbb hl
    clear hl hbb
    generalize l - BB = k at hb hL
    split at hb
    · rename_i lp hk
      unfold yl1 at hb
      cases hle : Nat.beq args.length lp.params.toList.length with
      | false => rw [hle] at hb; cases hb
      | true =>
        rw [hle, cond_true] at hb
        obtain ⟨t, ht, hb⟩ := Option.bind_eq_some_iff.1 hb
        obtain ⟨fm, hfm, hb⟩ := Option.bind_eq_some_iff.1 hb
        obtain ⟨r1, hr1, hb⟩ := Option.bind_eq_some_iff.1 hb
        obtain ⟨q, hq, hb⟩ := Option.bind_eq_some_iff.1 hb
        obtain ⟨s1, hs1, hb⟩ := Option.bind_eq_some_iff.1 hb
        obtain ⟨r2, hr2, hend⟩ := Option.bind_eq_some_iff.1 hb
        clear hb
        obtain ⟨tm, d, q4, q5, q3, hup⟩ := upd_loop H hk hL
        have hlen := concs_len hus
        have hsz : us.toArray.size = lp.params.size := by
          have := Nat.eq_of_beq_eq_true hle
          simp at this; simp; omega
        refine ⟨_, _, _, _, run_yield q3 hsz, ?_⟩
        have q4' := concA_iff.1 q4
        have hl4 := concs_len q4'
        have hf0 : Fr ρ lp.tmps.toList.length ⟨lp.tmps.toList.length, t, []⟩ { tmps := tm, defers := [] } := by
          refine Fr.ini q4' ht (by simpa using hl4) (by omega) (fun i => ?_)
          rw [Array.getD_eq_getD_getElem?, Array.getElem?_toList]
        have hf1 := zipE_spec hf0 hus hfm
        have hzip : (lp.params.zip us.toArray).foldl (fun t (q : Tmp × Value) => t.setIfInBounds q.1 q.2) tm = (lp.params.toList.zip us).foldl (fun t (q : Tmp × Value) => t.setIfInBounds q.1 q.2) tm := by
          rw [← Array.foldl_toList]; simp
        refine roundIn_of_wpIn (F := Wk.Fr none) (n := 0) (by simp [Fence.wide]) ?_
        show lp.assign.wpIn (Wk.Fr (some L.ad)) 0 C.P _ _ w
        simp only [hzip]
        refine wpIn_mono (codE_spec (ro := some L.ad) (dok := false) hK (fun hh => by cases hh) hf1 H hr1) (fun e a w1 hp => ?_)
        obtain ⟨τ, h1, h2, h3, h4⟩ := hp
        obtain ⟨x1, fm1, s2⟩ := r1
        cases x1 with
        | norm =>
          cases hq
          cases e with
          | normal =>
            have hf2 := h3 rfl
            have hL' : lcE (ρ ++ τ) k = some L := lcE_app _ hL
            unfold busE at hs1
            split at hs1
            · rename_i lp2 hk2
              cases hrd : isRdy lp2.state with
              | false => rw [hrd] at hs1; cases hs1
              | true =>
                rw [hrd, cond_true] at hs1
                have hst : lp2.state = .ready := by cases hs : lp2.state <;> rw [hs] at hrd <;> first | rfl | cases hrd
                obtain ⟨t2, d2, p4, p5, p3, hup2⟩ := upd_loop h4 hk2 hL'
                have H2 := hup2 .busy lp2.pending _ hs1
                refine ⟨_, run_beginRound p3 hst, ?_⟩
                refine wpIn_mono (codE_spec (ro := some L.ad) (dok := false) hK (fun hh => by cases hh) hf2 H2 hr2) (fun e a w1 hp => ?_)
                refine rndE_spec hp hL' hend (fun σ e w' g1 g2 => ?_)
                rw [List.append_assoc] at g1 g2
                exact ⟨τ ++ σ, g1, g2⟩
            · cases hs1
          | _ => exact h1.elim
        | _ => cases hq
    · cases hb

/-! ### The knot -/
def calNone : Cal := ⟨fun _ _ _ => none, fun _ _ _ => none⟩
theorem calNone_ok : CalOk C calNone := ⟨(fun _ _ _ _ _ h => by cases h), (fun _ _ _ _ _ h => by cases h)⟩
def evK (C : Ct) (LF : Nat) : Nat → Cal
  | 0 => calNone
  | k + 1 => ⟨fnE C (evK C LF k) (dclE C (evK C LF k) LF) LF, ylE C (evK C LF k) LF⟩
theorem evK_ok : ∀ k, CalOk C (evK C LF k)
  | 0 => calNone_ok
  | k + 1 => ⟨fun _ _ _ _ _ h => fnE_spec (evK_ok k) (dclE_spec (evK_ok k)) h, fun _ _ _ _ _ h => ylE_spec (evK_ok k) h⟩
def isTrue : Option (Er × St) → Bool
  | some (.ret (.bool true), _) => true
  | _ => false
theorem isTrue_iff {x : Option (Er × St)} (h : isTrue x = true) : ∃ s, x = some (.ret (.bool true), s) := by
  unfold isTrue at h
  split at h
  · exact ⟨_, rfl⟩
  · cases h
theorem Sr.start (C : Ct) (w : World) (hg : ∀ g o, C.gl.get g = some o → w.heap[g]? = some o) : Sr C w (fun _ => False) [] St.z w where
  un := rfl
  nm := Nat.lt_succ_self _
  up := fun k _ => rfl
  rv := fun k hk => by cases hk
  holds := fun k o h => by cases h
  inj := fun k k' o o' l l' h => by cases h
  fresh := fun k o l h => by cases h
  keep := fun b _ _ => rfl
  size := Nat.le_refl _
  os := rfl
  tape := rfl
  output := rfl
  glob := fun g o h => ⟨hg g o h, fun k o' l hk => by cases hk⟩
/-- **A closed call, reckoned**: that answers true, and leaves what stood. -/
theorem closedCall (C : Ct) {LF k : Nat} {f : FuncId} (h : isTrue ((evK C LF k).fn f [] St.z) = true) (w : World) (hg : ∀ g o, C.gl.get g = some o → w.heap[g]? = some o) :
    Wk.Sp C.P f [] w [] (fun _ : Unit => .bool true) (fun _ => []) (fun _ => True) := by
  obtain ⟨s, hs⟩ := isTrue_iff h
  obtain ⟨_, hc⟩ := (evK_ok k).fn _ _ _ _ _ hs
  refine Calls.mono (hc w (fun _ => False) [] w [] (Sr.start C w hg) (concs_nil _)) ?_
  rintro e w' ⟨τ, h1, h2⟩
  refine ⟨(), trivial, ?_, ?_⟩
  · cases e with
    | returned u =>
      have h3 : conc ([] ++ τ) (.bool true) = some u := h1
      simp only [conc, Option.some.injEq] at h3
      rw [h3]
    | _ => exact h1.elim
  · exact ⟨by simp, by simp [ids], by simp [ids], fun b hb _ => h2.keep b hb (fun hf => hf), h2.size, h2.os, h2.tape, h2.output⟩
end
end Go.Ev

/- What a seat's tables must show. -/
namespace Go.Ev
open Go.Wk
set_option linter.unusedVariables false
set_option linter.unusedSimpArgs false

def kOk {α : Type} : List (Nat × α) → Bool
  | [] => true
  | (k, _) :: r => Nat.blt (Nat.succ k) TOP && kOk r
def assoc {α : Type} : List (Nat × α) → Nat → Option α
  | [], _ => none
  | (j, v) :: r, i => bif Nat.beq j i then some v else assoc r i
theorem Tr.of_assoc {α : Type} : ∀ {l : List (Nat × α)}, kOk l = true → ∀ k, (Tr.of l).get k = assoc l k
  | [], _, k => rfl
  | (j, v) :: r, h, k => by
    simp only [kOk, Bool.and_eq_true] at h
    simp only [Tr.of, assoc]
    rw [Tr.get_set _ h.1, Tr.of_assoc h.2 k]
    by_cases hk : k = j
    · subst hk; rw [if_pos rfl, Nat.beq_refl, cond_true]
    · have hb : Nat.beq j k = false := by
        cases hb : Nat.beq j k with
        | false => rfl
        | true => exact absurd (Nat.eq_of_beq_eq_true hb).symm hk
      rw [if_neg hk, hb, cond_false]
theorem assoc_tl : ∀ (l : List (Nat × Ti)) (k : Nat), assoc l k = tl l k
  | [], _ => rfl
  | (j, v) :: r, k => by simp only [assoc, tl, assoc_tl r k]
theorem assoc_mem {α : Type} : ∀ {l : List (Nat × α)} {k : Nat} {v : α}, assoc l k = some v → (k, v) ∈ l
  | [], _, _, h => by cases h
  | (j, v) :: r, k, u, h => by
    simp only [assoc] at h
    cases hb : Nat.beq j k with
    | true => rw [hb, cond_true] at h; cases h; rw [Nat.eq_of_beq_eq_true hb]; exact List.mem_cons_self
    | false => rw [hb, cond_false] at h; exact List.mem_cons_of_mem _ (assoc_mem h)
theorem okL_of {tab : List (Nat × Ti)} (h : kOk tab = true) (t : TypeId) (i : Ti) (hg : (Tr.of tab).get t = some i) : tl tab t = some i := by
  rw [← assoc_tl, ← Tr.of_assoc h]; exact hg
/-- The functions are the program's. -/
def fOk (P : Program) : List (Nat × Func) → Prop
  | [] => True
  | (k, f) :: r => (P.funcs[k]? = some f ∧ (f.name == "runtime.NumGoroutine") = false) ∧ fOk P r
theorem fOk_mem {P : Program} : ∀ {l : List (Nat × Func)}, fOk P l → ∀ {k : Nat} {f : Func}, (k, f) ∈ l → P.funcs[k]? = some f ∧ (f.name == "runtime.NumGoroutine") = false
  | [], _, _, _, h => by cases h
  | (j, g) :: r, ok, k, f, h => by
    rcases List.mem_cons.1 h with h | h
    · cases h; exact ok.1
    · exact fOk_mem ok.2 h
theorem okF_of {P : Program} {l : List (Nat × Func)} (h : kOk l = true) (ok : fOk P l) (f : FuncId) (fn : Func) (hg : (Tr.of l).get f = some fn) : P.funcs[f]? = some fn ∧ (fn.name == "runtime.NumGoroutine") = false :=
  fOk_mem ok (assoc_mem (by rw [← Tr.of_assoc h]; exact hg))
/-- The entries are the functions'. -/
def xOk (P : Program) (bt : TypeId) : List (Nat × Nat) → Prop
  | [] => True
  | (k, c) :: r => (∃ fn, P.funcs[k]? = some fn ∧ (fn.name == "runtime.NumGoroutine") = false ∧ fn.body.isNone = true ∧ Extern.findNext fn = none ∧ Extern.find fn = some (xrow bt c)) ∧ xOk P bt r
theorem xOk_mem {P : Program} {bt : TypeId} : ∀ {l : List (Nat × Nat)}, xOk P bt l → ∀ {k c : Nat}, (k, c) ∈ l → ∃ fn, P.funcs[k]? = some fn ∧ (fn.name == "runtime.NumGoroutine") = false ∧ fn.body.isNone = true ∧ Extern.findNext fn = none ∧ Extern.find fn = some (xrow bt c)
  | [], _, _, _, h => by cases h
  | (j, g) :: r, ok, k, c, h => by
    rcases List.mem_cons.1 h with h | h
    · cases h; exact ok.1
    · exact xOk_mem ok.2 h
theorem okX_of {P : Program} {bt : TypeId} {l : List (Nat × Nat)} (h : kOk l = true) (ok : xOk P bt l) (f : FuncId) (c : Nat) (hg : (Tr.of l).get f = some c) (args : Array Value) (w : World) :
    (callFunc f args).run P w = ((xrow bt c args).run P w).andThen fun v w' => .ok (.value v) w' := by
  obtain ⟨fn, h1, h2, h3, h4, h5⟩ := xOk_mem ok (assoc_mem (by rw [← Tr.of_assoc h]; exact hg))
  rw [run_callFunc_extern h1 h2 h3 h4 h5]
end Go.Ev

/- The heads of law 13: a closed call, reckoned. -/
namespace Go.Proofs.YtpohhfggmaihpaaGreatDoor
open Go.Wk Go.Ev
set_option maxRecDepth 100000
noncomputable def H13.ftl : List (Nat × Func) := [(8, Tryz.f8), (9, Tryz.f9), (10, Tryz.f10), (11, Tryz.f11), (12, Tryz.f12), (13, Tryz.f13), (15, Tryz.f15), (16, Tryz.f16), (20, Tryz.f20), (22, Tryz.f22), (23, Tryz.f23), (24, Tryz.f24), (25, Tryz.f25), (26, Tryz.f26), (27, Tryz.f27), (28, Tryz.f28), (29, Tryz.f29), (33, Tryz.f33), (34, Tryz.f34), (35, Tryz.f35), (36, Tryz.f36), (37, Tryz.f37), (38, Tryz.f38), (39, Tryz.f39), (40, Tryz.f40), (42, Tryz.f42), (43, Tryz.f43), (44, Tryz.f44), (45, Tryz.f45), (46, Tryz.f46), (47, Tryz.f47), (48, Tryz.f48), (49, Tryz.f49), (50, Tryz.f50), (51, Tryz.f51), (55, Tryz.f55), (56, Tryz.f56), (57, Tryz.f57), (58, Tryz.f58), (59, Tryz.f59), (60, Tryz.f60), (61, Tryz.f61), (65, Tryz.f65), (66, Tryz.f66), (67, Tryz.f67), (68, Tryz.f68), (69, Tryz.f69), (70, Tryz.f70), (71, Tryz.f71), (72, Tryz.f72), (73, Tryz.f73), (74, Tryz.f74), (75, Tryz.f75), (76, Tryz.f76), (77, Tryz.f77), (78, Tryz.f78), (79, Tryz.f79), (80, Tryz.f80), (81, Tryz.f81), (82, Tryz.f82), (83, Tryz.f83), (84, Tryz.f84), (85, Tryz.f85), (86, Tryz.f86), (87, Tryz.f87), (88, Tryz.f88), (89, Tryz.f89), (90, Tryz.f90), (91, Tryz.f91), (92, Tryz.f92), (93, Tryz.f93), (102, Tryz.f102), (103, Tryz.f103), (104, Tryz.f104), (105, Tryz.f105), (109, Tryz.f109), (110, Tryz.f110), (111, Tryz.f111), (112, Tryz.f112), (113, Tryz.f113), (114, Tryz.f114), (115, Tryz.f115), (116, Tryz.f116), (117, Tryz.f117), (118, Tryz.f118), (119, Tryz.f119), (120, Tryz.f120), (121, Tryz.f121), (122, Tryz.f122), (123, Tryz.f123), (124, Tryz.f124), (125, Tryz.f125), (126, Tryz.f126), (127, Tryz.f127), (128, Tryz.f128), (129, Tryz.f129), (130, Tryz.f130), (131, Tryz.f131), (132, Tryz.f132), (136, Tryz.f136), (137, Tryz.f137), (138, Tryz.f138), (139, Tryz.f139), (140, Tryz.f140), (141, Tryz.f141), (142, Tryz.f142), (143, Tryz.f143), (144, Tryz.f144), (145, Tryz.f145), (146, Tryz.f146), (147, Tryz.f147), (148, Tryz.f148), (149, Tryz.f149), (150, Tryz.f150), (151, Tryz.f151), (152, Tryz.f152), (154, Tryz.f154), (155, Tryz.f155), (156, Tryz.f156), (157, Tryz.f157), (159, Tryz.f159), (161, Tryz.f161), (162, Tryz.f162), (163, Tryz.f163), (164, Tryz.f164), (165, Tryz.f165), (166, Tryz.f166), (167, Tryz.f167), (168, Tryz.f168), (169, Tryz.f169), (170, Tryz.f170), (171, Tryz.f171), (172, Tryz.f172), (173, Tryz.f173), (174, Tryz.f174), (176, Tryz.f176), (177, Tryz.f177), (178, Tryz.f178), (179, Tryz.f179), (180, Tryz.f180), (181, Tryz.f181), (182, Tryz.f182), (183, Tryz.f183), (184, Tryz.f184), (185, Tryz.f185)]
def H13.xtl : List (Nat × Nat) := [(135, 0), (153, 3), (158, 1), (160, 2)]
theorem H13.fok : fOk Tryz.prog H13.ftl := ⟨⟨Tryz.func8, by kernel_rfl⟩, ⟨Tryz.func9, by kernel_rfl⟩, ⟨Tryz.func10, by kernel_rfl⟩, ⟨Tryz.func11, by kernel_rfl⟩, ⟨Tryz.func12, by kernel_rfl⟩, ⟨Tryz.func13, by kernel_rfl⟩, ⟨Tryz.func15, by kernel_rfl⟩, ⟨Tryz.func16, by kernel_rfl⟩, ⟨Tryz.func20, by kernel_rfl⟩, ⟨Tryz.func22, by kernel_rfl⟩, ⟨Tryz.func23, by kernel_rfl⟩, ⟨Tryz.func24, by kernel_rfl⟩, ⟨Tryz.func25, by kernel_rfl⟩, ⟨Tryz.func26, by kernel_rfl⟩, ⟨Tryz.func27, by kernel_rfl⟩, ⟨Tryz.func28, by kernel_rfl⟩, ⟨Tryz.func29, by kernel_rfl⟩, ⟨Tryz.func33, by kernel_rfl⟩, ⟨Tryz.func34, by kernel_rfl⟩, ⟨Tryz.func35, by kernel_rfl⟩, ⟨Tryz.func36, by kernel_rfl⟩, ⟨Tryz.func37, by kernel_rfl⟩, ⟨Tryz.func38, by kernel_rfl⟩, ⟨Tryz.func39, by kernel_rfl⟩, ⟨Tryz.func40, by kernel_rfl⟩, ⟨Tryz.func42, by kernel_rfl⟩, ⟨Tryz.func43, by kernel_rfl⟩, ⟨Tryz.func44, by kernel_rfl⟩, ⟨Tryz.func45, by kernel_rfl⟩, ⟨Tryz.func46, by kernel_rfl⟩, ⟨Tryz.func47, by kernel_rfl⟩, ⟨Tryz.func48, by kernel_rfl⟩, ⟨Tryz.func49, by kernel_rfl⟩, ⟨Tryz.func50, by kernel_rfl⟩, ⟨Tryz.func51, by kernel_rfl⟩, ⟨Tryz.func55, by kernel_rfl⟩, ⟨Tryz.func56, by kernel_rfl⟩, ⟨Tryz.func57, by kernel_rfl⟩, ⟨Tryz.func58, by kernel_rfl⟩, ⟨Tryz.func59, by kernel_rfl⟩, ⟨Tryz.func60, by kernel_rfl⟩, ⟨Tryz.func61, by kernel_rfl⟩, ⟨Tryz.func65, by kernel_rfl⟩, ⟨Tryz.func66, by kernel_rfl⟩, ⟨Tryz.func67, by kernel_rfl⟩, ⟨Tryz.func68, by kernel_rfl⟩, ⟨Tryz.func69, by kernel_rfl⟩, ⟨Tryz.func70, by kernel_rfl⟩, ⟨Tryz.func71, by kernel_rfl⟩, ⟨Tryz.func72, by kernel_rfl⟩, ⟨Tryz.func73, by kernel_rfl⟩, ⟨Tryz.func74, by kernel_rfl⟩, ⟨Tryz.func75, by kernel_rfl⟩, ⟨Tryz.func76, by kernel_rfl⟩, ⟨Tryz.func77, by kernel_rfl⟩, ⟨Tryz.func78, by kernel_rfl⟩, ⟨Tryz.func79, by kernel_rfl⟩, ⟨Tryz.func80, by kernel_rfl⟩, ⟨Tryz.func81, by kernel_rfl⟩, ⟨Tryz.func82, by kernel_rfl⟩, ⟨Tryz.func83, by kernel_rfl⟩, ⟨Tryz.func84, by kernel_rfl⟩, ⟨Tryz.func85, by kernel_rfl⟩, ⟨Tryz.func86, by kernel_rfl⟩, ⟨Tryz.func87, by kernel_rfl⟩, ⟨Tryz.func88, by kernel_rfl⟩, ⟨Tryz.func89, by kernel_rfl⟩, ⟨Tryz.func90, by kernel_rfl⟩, ⟨Tryz.func91, by kernel_rfl⟩, ⟨Tryz.func92, by kernel_rfl⟩, ⟨Tryz.func93, by kernel_rfl⟩, ⟨Tryz.func102, by kernel_rfl⟩, ⟨Tryz.func103, by kernel_rfl⟩, ⟨Tryz.func104, by kernel_rfl⟩, ⟨Tryz.func105, by kernel_rfl⟩, ⟨Tryz.func109, by kernel_rfl⟩, ⟨Tryz.func110, by kernel_rfl⟩, ⟨Tryz.func111, by kernel_rfl⟩, ⟨Tryz.func112, by kernel_rfl⟩, ⟨Tryz.func113, by kernel_rfl⟩, ⟨Tryz.func114, by kernel_rfl⟩, ⟨Tryz.func115, by kernel_rfl⟩, ⟨Tryz.func116, by kernel_rfl⟩, ⟨Tryz.func117, by kernel_rfl⟩, ⟨Tryz.func118, by kernel_rfl⟩, ⟨Tryz.func119, by kernel_rfl⟩, ⟨Tryz.func120, by kernel_rfl⟩, ⟨Tryz.func121, by kernel_rfl⟩, ⟨Tryz.func122, by kernel_rfl⟩, ⟨Tryz.func123, by kernel_rfl⟩, ⟨Tryz.func124, by kernel_rfl⟩, ⟨Tryz.func125, by kernel_rfl⟩, ⟨Tryz.func126, by kernel_rfl⟩, ⟨Tryz.func127, by kernel_rfl⟩, ⟨Tryz.func128, by kernel_rfl⟩, ⟨Tryz.func129, by kernel_rfl⟩, ⟨Tryz.func130, by kernel_rfl⟩, ⟨Tryz.func131, by kernel_rfl⟩, ⟨Tryz.func132, by kernel_rfl⟩, ⟨Tryz.func136, by kernel_rfl⟩, ⟨Tryz.func137, by kernel_rfl⟩, ⟨Tryz.func138, by kernel_rfl⟩, ⟨Tryz.func139, by kernel_rfl⟩, ⟨Tryz.func140, by kernel_rfl⟩, ⟨Tryz.func141, by kernel_rfl⟩, ⟨Tryz.func142, by kernel_rfl⟩, ⟨Tryz.func143, by kernel_rfl⟩, ⟨Tryz.func144, by kernel_rfl⟩, ⟨Tryz.func145, by kernel_rfl⟩, ⟨Tryz.func146, by kernel_rfl⟩, ⟨Tryz.func147, by kernel_rfl⟩, ⟨Tryz.func148, by kernel_rfl⟩, ⟨Tryz.func149, by kernel_rfl⟩, ⟨Tryz.func150, by kernel_rfl⟩, ⟨Tryz.func151, by kernel_rfl⟩, ⟨Tryz.func152, by kernel_rfl⟩, ⟨Tryz.func154, by kernel_rfl⟩, ⟨Tryz.func155, by kernel_rfl⟩, ⟨Tryz.func156, by kernel_rfl⟩, ⟨Tryz.func157, by kernel_rfl⟩, ⟨Tryz.func159, by kernel_rfl⟩, ⟨Tryz.func161, by kernel_rfl⟩, ⟨Tryz.func162, by kernel_rfl⟩, ⟨Tryz.func163, by kernel_rfl⟩, ⟨Tryz.func164, by kernel_rfl⟩, ⟨Tryz.func165, by kernel_rfl⟩, ⟨Tryz.func166, by kernel_rfl⟩, ⟨Tryz.func167, by kernel_rfl⟩, ⟨Tryz.func168, by kernel_rfl⟩, ⟨Tryz.func169, by kernel_rfl⟩, ⟨Tryz.func170, by kernel_rfl⟩, ⟨Tryz.func171, by kernel_rfl⟩, ⟨Tryz.func172, by kernel_rfl⟩, ⟨Tryz.func173, by kernel_rfl⟩, ⟨Tryz.func174, by kernel_rfl⟩, ⟨Tryz.func176, by kernel_rfl⟩, ⟨Tryz.func177, by kernel_rfl⟩, ⟨Tryz.func178, by kernel_rfl⟩, ⟨Tryz.func179, by kernel_rfl⟩, ⟨Tryz.func180, by kernel_rfl⟩, ⟨Tryz.func181, by kernel_rfl⟩, ⟨Tryz.func182, by kernel_rfl⟩, ⟨Tryz.func183, by kernel_rfl⟩, ⟨Tryz.func184, by kernel_rfl⟩, ⟨Tryz.func185, by kernel_rfl⟩, trivial⟩
theorem H13.xok : xOk Tryz.prog 61 H13.xtl := ⟨⟨_, Tryz.func135, by kernel_rfl, by kernel_rfl, by kernel_rfl, by kernel_rfl⟩, ⟨_, Tryz.func153, by kernel_rfl, by kernel_rfl, by kernel_rfl, by kernel_rfl⟩, ⟨_, Tryz.func158, by kernel_rfl, by kernel_rfl, by kernel_rfl, by kernel_rfl⟩, ⟨_, Tryz.func160, by kernel_rfl, by kernel_rfl, by kernel_rfl, by kernel_rfl⟩, trivial⟩
def pow10 : List Value := [1, 10, 100, 1000, 10000, 100000, 1000000, 10000000, 100000000, 1000000000, 10000000000, 100000000000, 1000000000000, 10000000000000, 100000000000000, 1000000000000000, 10000000000000000, 100000000000000000, 1000000000000000000, 10000000000000000000].map (Value.int .u64)
theorem mixed : Tryz.sx.P.follows .mixedOrders = true := by kernel_rfl
noncomputable def ct13 (more : List Value) (e : TypeId) (fz : Nat × Nat) : Ct where
  s := Tryz.sx
  tt := Tr.of Tryz.tab
  ft := Tr.of H13.ftl
  gl := Tr.of [(1, .cells ⟨pow10 ++ more⟩ e fz)]
  xt := Tr.of H13.xtl
  bt := 61
  okX := okX_of (P := Tryz.prog) (by kernel_rfl) H13.xok
  okL := okL_of (by kernel_rfl)
  okF := okF_of (P := Tryz.prog) (by kernel_rfl) H13.fok
  mixed := mixed
end Go.Proofs.YtpohhfggmaihpaaGreatDoor

/- The heads of law 13 are true. -/
namespace Go.Proofs.YtpohhfggmaihpaaGreatDoor
open Go.Wk Go.Ev
set_option maxRecDepth 100000
theorem heads13_true (more : List Value) (e : TypeId) (fz : Nat × Nat) : isTrue ((evK (ct13 more e fz) 1000 60).fn 9 [] St.z) = true := by kernel_rfl
end Go.Proofs.YtpohhfggmaihpaaGreatDoor

/- The heads of law 13. -/
namespace Go.Proofs.YtpohhfggmaihpaaGreatDoor
open Go.Wk
set_option linter.unusedVariables false
set_option linter.unusedSimpArgs false
attribute [local irreducible] G GC GQ GA GS Exit.then Exit.inBlock

/-- What the row tells of the powers of ten. -/
def Pow10 (H : Nat → Option Obj) : Prop := ∃ more e fz, H 1 = some (.cells ⟨pow10 ++ more⟩ e fz)
theorem Pow10.le {H1 H2 : Nat → Option Obj} (h : Hle H1 H2) (p : Pow10 H1) : Pow10 H2 := by
  obtain ⟨m, e, fz, hp⟩ := p; exact ⟨m, e, fz, h _ _ hp⟩
theorem heads13_sp (w : World) (hp : Pow10 (hw w)) : Sp Tryz.prog 9 [] w [] (fun _ : Unit => .bool true) (fun _ => []) (fun _ => True) := by
  obtain ⟨more, e, fz, h⟩ := hp
  refine Go.Ev.closedCall (ct13 more e fz) (heads13_true more e fz) w (fun g o hg => ?_)
  have h1 : (Go.Ev.Tr.of [(1, Obj.cells ⟨pow10 ++ more⟩ e fz)]).get g = some o := hg
  rw [Go.Ev.Tr.of_assoc rfl] at h1
  simp only [Go.Ev.assoc] at h1
  cases hb : Nat.beq 1 g with
  | true =>
    rw [hb, cond_true] at h1; cases h1
    obtain rfl := Nat.eq_of_beq_eq_true hb
    exact h
  | false => rw [hb] at h1; cases h1

end Go.Proofs.YtpohhfggmaihpaaGreatDoor

/- What the rows of law 13 tell of the package-level tables; a world that has them. -/
namespace Go.Proofs.YtpohhfggmaihpaaGreatDoor
open Go.Wk Go.ChangeShapes Go.WideShapes Go.ChangeAt Go.RowKit
set_option linter.unusedVariables false
set_option maxRecDepth 100000

/-- The variables that every row of law 13 lists. -/
def laid13 : List (String × DataW Unit) := Rows.tacAsksRow.laid
def pow10Z : List Int := [1, 10, 100, 1000, 10000, 100000, 1000000, 10000000, 100000000, 1000000000, 10000000000, 100000000000, 1000000000000, 10000000000000, 100000000000000, 1000000000000000, 10000000000000000, 100000000000000000, 1000000000000000000, 10000000000000000000]
theorem gPow : Tryz.prog.globalNamed "internal/strconv.uint64pow10" = some 1 := by kernel_rfl
theorem gPowT : (Tryz.prog.globals[1]?).map (·.type) = some 207 := by kernel_rfl
theorem laid13_met (os : Os) (args : Array Value) : laidMetH Tryz.prog laid13 ((World.laidAll Tryz.prog os laid13).forCall (fun _ _ => 0) ⟨#[], args, []⟩).memory := by
  rw [MakeChecks.laidMetH_plain _ _ _ (by kernel_rfl)]
  exact laidMet_laidAll args (by kernel_rfl) (by kernel_rfl)
end Go.Proofs.YtpohhfggmaihpaaGreatDoor

/- Programs of three-address code, as memory holds them. -/
namespace Go.Proofs.YtpohhfggmaihpaaGreatDoor
open Go.Wk
set_option linter.unusedVariables false
set_option linter.unusedSimpArgs false
attribute [local irreducible] G GC GQ GA GS Exit.then Exit.inBlock

structure Slt where
  size : Int
  align : Int
def Slt.cells (s : Slt) : List Value := [.int .i64 s.size, .int .i64 s.align]
structure Rel where
  off : Int
  gl : Int
  add : Int
def Rel.cells (r : Rel) : List Value := [.int .i64 r.off, .int .i64 r.gl, .int .i64 r.add]
def fB (b : Int) : List Value := [.int .u8 b]
structure Fn where
  nm : ByteArray
  pa : Int
  te : Int
  gi : Bool
  slots : List Slt
  sA : Option Addr
  sC : Nat
  code : List Ins
  cA : Option Addr
  cC : Nat
def Fn.cells (f : Fn) : List Value := [.string f.nm, .int .i64 f.pa, .int .i64 f.te, .bool f.gi, .slice f.sA f.slots.length f.sC, .slice f.cA f.code.length f.cC]
def Fn.val (f : Fn) : Value := .agg f.cells.toArray
structure Ob where
  nm : ByteArray
  size : Int
  align : Int
  bytes : List Int
  bA : Option Addr
  bC : Nat
  rels : List Rel
  rA : Option Addr
  rC : Nat
def Ob.cells (o : Ob) : List Value := [.string o.nm, .int .i64 o.size, .int .i64 o.align, .slice o.bA o.bytes.length o.bC, .slice o.rA o.rels.length o.rC]
def Ob.val (o : Ob) : Value := .agg o.cells.toArray
structure Pr where
  obs : List Ob
  oA : Option Addr
  oC : Nat
  fns : List Fn
  fA : Option Addr
  fC : Nat
  main : Int
def Pr.cells (p : Pr) : List Value := [.slice p.oA p.obs.length p.oC, .slice p.fA p.fns.length p.fC, .int .i64 p.main]
def Pr.val (p : Pr) : Value := .agg p.cells.toArray

structure FnIn (h : Nat → Option Obj) (f : Fn) : Prop where
  code : CodeIn h f.cA f.code
  slots : Rd h Slt.cells 2 f.sA f.slots
  slen : f.slots.length ≤ 8796093022000
  pa : in64 f.pa
  te : in64 f.te
  ss : ∀ s ∈ f.slots, in64 s.size ∧ in64 s.align
structure ObIn (h : Nat → Option Obj) (o : Ob) : Prop where
  bytes : Rd h fB 1 o.bA o.bytes
  blen : o.bytes.length ≤ 140737488355328
  bs : ∀ b ∈ o.bytes, 0 ≤ b ∧ b ≤ 255
  rels : Rd h Rel.cells 3 o.rA o.rels
  rlen : o.rels.length ≤ 5864062014640
  rs : ∀ r ∈ o.rels, in64 r.off ∧ in64 r.gl ∧ in64 r.add
  size : in64 o.size
  align : in64 o.align
  bcap : o.bytes.length ≤ o.bC
structure PrIn (h : Nat → Option Obj) (p : Pr) : Prop where
  obs : Rd h Ob.cells 5 p.oA p.obs
  olen : p.obs.length ≤ 1759218604395
  fns : Rd h Fn.cells 6 p.fA p.fns
  flen : p.fns.length ≤ 1599289640360
  ob : ∀ o ∈ p.obs, ObIn h o
  fn : ∀ f ∈ p.fns, FnIn h f
  main : in64 p.main
theorem FnIn.le {h1 h2 : Nat → Option Obj} (H : Hle h1 h2) {f : Fn} (h : FnIn h1 f) : FnIn h2 f := ⟨h.code.le H, h.slots.le H, h.slen, h.pa, h.te, h.ss⟩
theorem ObIn.le {h1 h2 : Nat → Option Obj} (H : Hle h1 h2) {o : Ob} (h : ObIn h1 o) : ObIn h2 o := ⟨h.bytes.le H, h.blen, h.bs, h.rels.le H, h.rlen, h.rs, h.size, h.align, h.bcap⟩
theorem PrIn.le {h1 h2 : Nat → Option Obj} (H : Hle h1 h2) {p : Pr} (h : PrIn h1 p) : PrIn h2 p := ⟨h.obs.le H, h.olen, h.fns.le H, h.flen, fun o ho => (h.ob o ho).le H, fun f hf => (h.fn f hf).le H, h.main⟩
end Go.Proofs.YtpohhfggmaihpaaGreatDoor

/- The argument, read: a program of three-address code. -/
namespace Go.Proofs.YtpohhfggmaihpaaGreatDoor
open Go.Wk Go.ChangeShapes Go.WideShapes Go.ChangeAt Go.RowKit
set_option linter.unusedVariables false
set_option linter.unusedSimpArgs false

section
variable {H : Type} {enc : TypeId × Value → H} {W : World} {sp : Nat → Bool} {fuel : Nat}
set_option maxRecDepth 100000
/-- A slice, read. -/
theorem sl_read {α : Type} {f : α → List Value} {p : α → Prop} {t e : TypeId} {sz by' : Nat} (hu : Tryz.prog.underlying t = some (.slice e)) (hc : Tryz.prog.cellsOf e = sz + 1) (hb : Tryz.prog.bytesOf e = by' + 1)
    (hel : ∀ {fuel : Nat} {cs : List Value} {x : DataW H × List MemPlace}, DataW.trod enc Tryz.prog W 0 sp true fuel e cs = some x → (∀ n ∈ x.1.weights Tryz.prog e, n ≤ reachBytes) → ∃ y : α, cs = f y ∧ p y)
    {v : Value} {x : DataW H × List MemPlace} (h : DataW.trod enc Tryz.prog W 0 sp true fuel t [v] = some x) (hs : ∀ n ∈ x.1.weights Tryz.prog t, n ≤ reachBytes) :
    ∃ (A : Option Addr) (c : Nat) (l : List α), v = .slice A l.length c ∧ Rd (hw W) f (sz + 1) A l ∧ l.length * (by' + 1) ≤ reachBytes ∧ (∀ y ∈ l, p y) ∧ l.length ≤ c := by
  rcases DataW.trod_slice hu h with ⟨e, -⟩ | ⟨a, len, cap, elems, rest, n, rfl, e, rfl, -, hlc, -, hel', hat, -⟩
  · cases e
    exact ⟨none, 0, [], rfl, fun i x hx => by simp at hx, by simp, (fun a ha => by cases ha), Nat.le_refl _⟩
  · cases e
    rw [hc] at hat
    obtain ⟨l, hl, hp⟩ := list_of (α := α) (p := fun i y => (W.cells? 0 (a.add (i * (sz + 1))) (sz + 1) = some (f y)) ∧ p y) len (fun i hi => by
      have hie : i < elems.length := by omega
      have h1 := hat i hi
      rw [List.getElem?_eq_getElem hie] at h1
      obtain ⟨cs, h2, h3⟩ := Option.bind_eq_some_iff.1 h1
      obtain ⟨y, rfl, hy⟩ := hel h3 (fun n hn => hs n (by
        simp only [DataW.weights, hu, List.mem_cons, List.mem_append]
        exact .inr (.inl (weights_all (List.mem_map.2 ⟨_, List.getElem_mem hie, rfl⟩) hn))))
      exact ⟨y, h2, hy⟩)
    refine ⟨some a, cap, l, by rw [hl], rd_of (fun i y hy => (hp i y hy).1), ?_, fun y hy => ?_, by omega⟩
    · have := hs ((elems.length + rest.length) * Tryz.prog.bytesOf e) (by simp [DataW.weights, hu])
      rw [hb] at this
      refine Nat.le_trans (Nat.mul_le_mul_right _ ?_) this
      omega
    · obtain ⟨i, hi, rfl⟩ := List.mem_iff_getElem.1 hy
      exact (hp i _ (List.getElem?_eq_getElem hi)).2
theorem byte_read {cs : List Value} {x : DataW H × List MemPlace} (h : DataW.trod enc Tryz.prog W 0 sp true fuel 5 cs = some x) : ∃ b : Int, cs = fB b ∧ (0 ≤ b ∧ b ≤ 255) := by
  obtain ⟨k, e0, -, w0⟩ := DataW.trod_int Tryz.underlying5 h
  subst e0
  refine ⟨k, rfl, ?_⟩
  simpa [Lit.wf, IntKind.min, IntKind.max, IntKind.signed, IntKind.bits] using w0
theorem slot_read {cs : List Value} {x : DataW H × List MemPlace} (h : DataW.trod enc Tryz.prog W 0 sp true fuel 90 cs = some x) : ∃ s : Slt, cs = s.cells ∧ (in64 s.size ∧ in64 s.align) := by
  obtain ⟨xs, n, rfl, rfl, hl, hxl, hf⟩ := DataW.trod_struct Tryz.underlying90 h
  have e : Tryz.prog.cellsOf 90 = 2 := by kernel_rfl
  rw [e] at hl
  match xs, hxl, cs, hl with
  | [y0, y1], _, [v0, v1], _ =>
    have c0 : Tryz.prog.cellsOf 3 = 1 := by kernel_rfl
    have h0 := hf 0 _ rfl
    have h1 := hf 1 _ rfl
    simp only [c0, List.drop_zero, List.drop_succ_cons, List.take_succ_cons, List.take_zero, List.getElem?_cons_zero, List.getElem?_cons_succ] at h0 h1
    obtain ⟨k, e0, -, w0⟩ := DataW.trod_int Tryz.underlying3 h0
    obtain ⟨m, e1, -, w1⟩ := DataW.trod_int Tryz.underlying3 h1
    cases e0; cases e1
    exact ⟨⟨k, m⟩, rfl, in64_wf w0, in64_wf w1⟩
theorem rel_read {cs : List Value} {x : DataW H × List MemPlace} (h : DataW.trod enc Tryz.prog W 0 sp true fuel 78 cs = some x) : ∃ r : Rel, cs = r.cells ∧ (in64 r.off ∧ in64 r.gl ∧ in64 r.add) := by
  obtain ⟨xs, n, rfl, rfl, hl, hxl, hf⟩ := DataW.trod_struct Tryz.underlying78 h
  have e : Tryz.prog.cellsOf 78 = 3 := by kernel_rfl
  rw [e] at hl
  match xs, hxl, cs, hl with
  | [y0, y1, y2], _, [v0, v1, v2], _ =>
    have c0 : Tryz.prog.cellsOf 3 = 1 := by kernel_rfl
    have h0 := hf 0 _ rfl
    have h1 := hf 1 _ rfl
    have h2 := hf 2 _ rfl
    simp only [c0, List.drop_zero, List.drop_succ_cons, List.take_succ_cons, List.take_zero, List.getElem?_cons_zero, List.getElem?_cons_succ] at h0 h1 h2
    obtain ⟨k, e0, -, w0⟩ := DataW.trod_int Tryz.underlying3 h0
    obtain ⟨m, e1, -, w1⟩ := DataW.trod_int Tryz.underlying3 h1
    obtain ⟨q, e2, -, w2⟩ := DataW.trod_int Tryz.underlying3 h2
    cases e0; cases e1; cases e2
    exact ⟨⟨k, m, q⟩, rfl, in64_wf w0, in64_wf w1, in64_wf w2⟩
theorem fn_read {cs : List Value} {x : DataW H × List MemPlace} (h : DataW.trod enc Tryz.prog W 0 sp true fuel 32 cs = some x) (hs : ∀ n ∈ x.1.weights Tryz.prog 32, n ≤ reachBytes) : ∃ f : Fn, cs = f.cells ∧ FnIn (hw W) f := by
  obtain ⟨xs, n, rfl, rfl, hl, hxl, hf⟩ := DataW.trod_struct Tryz.underlying32 h
  have e : Tryz.prog.cellsOf 32 = 6 := by kernel_rfl
  rw [e] at hl
  match xs, hxl, cs, hl with
  | [y0, y1, y2, y3, y4, y5], _, [v0, v1, v2, v3, v4, v5], _ =>
    have c0 : Tryz.prog.cellsOf 9 = 1 := by kernel_rfl
    have c1 : Tryz.prog.cellsOf 3 = 1 := by kernel_rfl
    have c2 : Tryz.prog.cellsOf 4 = 1 := by kernel_rfl
    have c3 : Tryz.prog.cellsOf 29 = 1 := by kernel_rfl
    have c4 : Tryz.prog.cellsOf 30 = 1 := by kernel_rfl
    have h0 := hf 0 _ rfl
    have h1 := hf 1 _ rfl
    have h2 := hf 2 _ rfl
    have h3 := hf 3 _ rfl
    have h4 := hf 4 _ rfl
    have h5 := hf 5 _ rfl
    simp only [c0, c1, c2, c3, c4, List.drop_zero, List.drop_succ_cons, List.take_succ_cons, List.take_zero, List.getElem?_cons_zero, List.getElem?_cons_succ] at h0 h1 h2 h3 h4 h5
    obtain ⟨nm, e0, -⟩ := DataW.trod_string Tryz.underlying9 h0
    obtain ⟨pa, e1, -, w1⟩ := DataW.trod_int Tryz.underlying3 h1
    obtain ⟨te, e2, -, w2⟩ := DataW.trod_int Tryz.underlying3 h2
    obtain ⟨gi, e3, -⟩ := DataW.trod_bool Tryz.underlying4 h3
    obtain ⟨sA, sC, slots, e4, r1, r2, r3, -⟩ := sl_read (f := Slt.cells) (p := fun s => in64 s.size ∧ in64 s.align) (sz := 1) (by' := 15) Tryz.underlying29 (by kernel_rfl) (by kernel_rfl) (fun h _ => slot_read h) h4 (fun n hn => hs n (by
      simp [DataW.weights, Tryz.underlying32, DataW.weightsEach, hn]))
    obtain ⟨cA, cC, code, e5, r4, -⟩ := code_read h5 (fun n hn => hs n (by
      simp [DataW.weights, Tryz.underlying32, DataW.weightsEach, hn]))
    cases e0; cases e1; cases e2; cases e3; subst e4; subst e5
    refine ⟨⟨nm, pa, te, gi, slots, sA, sC, code, cA, cC⟩, rfl, ⟨r4, r1, ?_, in64_wf w1, in64_wf w2, r3⟩⟩
    unfold reachBytes at r2; dsimp only; omega
theorem ob_read {cs : List Value} {x : DataW H × List MemPlace} (h : DataW.trod enc Tryz.prog W 0 sp true fuel 66 cs = some x) (hs : ∀ n ∈ x.1.weights Tryz.prog 66, n ≤ reachBytes) : ∃ o : Ob, cs = o.cells ∧ ObIn (hw W) o := by
  obtain ⟨xs, n, rfl, rfl, hl, hxl, hf⟩ := DataW.trod_struct Tryz.underlying66 h
  have e : Tryz.prog.cellsOf 66 = 5 := by kernel_rfl
  rw [e] at hl
  match xs, hxl, cs, hl with
  | [y0, y1, y2, y3], _, [v0, v1, v2, v3, v4], _ =>
    have c0 : Tryz.prog.cellsOf 9 = 1 := by kernel_rfl
    have c1 : Tryz.prog.cellsOf 3 = 1 := by kernel_rfl
    have c2 : Tryz.prog.cellsOf 64 = 2 := by kernel_rfl
    have h0 := hf 0 _ rfl
    have h1 := hf 1 _ rfl
    have h2 := hf 2 _ rfl
    have h3 := hf 3 _ rfl
    simp only [c0, c1, c2, List.drop_zero, List.drop_succ_cons, List.take_succ_cons, List.take_zero, List.getElem?_cons_zero, List.getElem?_cons_succ] at h0 h1 h2 h3
    have hs3 : ∀ n ∈ y3.1.weights Tryz.prog 64, n ≤ reachBytes := fun n hn => hs n (by
      simp [DataW.weights, Tryz.underlying66, DataW.weightsEach, hn])
    obtain ⟨nm, e0, -⟩ := DataW.trod_string Tryz.underlying9 h0
    obtain ⟨si, e1, -, w1⟩ := DataW.trod_int Tryz.underlying3 h1
    obtain ⟨al, e2, -, w2⟩ := DataW.trod_int Tryz.underlying3 h2
    obtain ⟨zs, n3, -, e3, hl3, hzl, hf3⟩ := DataW.trod_struct Tryz.underlying64 h3
    rw [e3] at hs3
    match zs, hzl with
    | [z0, z1], _ =>
      have c3 : Tryz.prog.cellsOf 61 = 1 := by kernel_rfl
      have c4 : Tryz.prog.cellsOf 62 = 1 := by kernel_rfl
      have g0 := hf3 0 _ rfl
      have g1 := hf3 1 _ rfl
      simp only [c3, c4, List.drop_zero, List.drop_succ_cons, List.take_succ_cons, List.take_zero, List.getElem?_cons_zero, List.getElem?_cons_succ] at g0 g1
      obtain ⟨bA, bC, bytes, e4, r1, r2, r3, r9⟩ := sl_read (f := fB) (p := fun b => 0 ≤ b ∧ b ≤ 255) (sz := 0) (by' := 0) Tryz.underlying61 (by kernel_rfl) (by kernel_rfl) (fun h _ => byte_read h) g0 (fun n hn => hs3 n (by
        simp [DataW.weights, Tryz.underlying64, DataW.weightsEach, hn]))
      obtain ⟨rA, rC, rels, e5, r4, r5, r6, -⟩ := sl_read (f := Rel.cells) (p := fun r => in64 r.off ∧ in64 r.gl ∧ in64 r.add) (sz := 2) (by' := 23) Tryz.underlying62 (by kernel_rfl) (by kernel_rfl) (fun h _ => rel_read h) g1 (fun n hn => hs3 n (by
        simp [DataW.weights, Tryz.underlying64, DataW.weightsEach, hn]))
      cases e0; cases e1; cases e2; subst e4; subst e5
      refine ⟨⟨nm, si, al, bytes, bA, bC, rels, rA, rC⟩, rfl, ⟨r1, ?_, r3, r4, ?_, r6, in64_wf w1, in64_wf w2, r9⟩⟩
      · unfold reachBytes at r2; dsimp only; omega
      · unfold reachBytes at r5; dsimp only; omega
theorem pr_read {cs : List Value} {x : DataW H × List MemPlace} (h : DataW.trod enc Tryz.prog W 0 sp true fuel 25 cs = some x) (hs : ∀ n ∈ x.1.weights Tryz.prog 25, n ≤ reachBytes) : ∃ p : Pr, cs = p.cells ∧ PrIn (hw W) p := by
  obtain ⟨xs, n, rfl, rfl, hl, hxl, hf⟩ := DataW.trod_struct Tryz.underlying25 h
  have e : Tryz.prog.cellsOf 25 = 3 := by kernel_rfl
  rw [e] at hl
  match xs, hxl, cs, hl with
  | [y0, y1, y2], _, [v0, v1, v2], _ =>
    have c0 : Tryz.prog.cellsOf 22 = 1 := by kernel_rfl
    have c1 : Tryz.prog.cellsOf 23 = 1 := by kernel_rfl
    have c2 : Tryz.prog.cellsOf 3 = 1 := by kernel_rfl
    have h0 := hf 0 _ rfl
    have h1 := hf 1 _ rfl
    have h2 := hf 2 _ rfl
    simp only [c0, c1, c2, List.drop_zero, List.drop_succ_cons, List.take_succ_cons, List.take_zero, List.getElem?_cons_zero, List.getElem?_cons_succ] at h0 h1 h2
    obtain ⟨oA, oC, obs, e0, r1, r2, r3, -⟩ := sl_read (f := Ob.cells) (p := ObIn (hw W)) (sz := 4) (by' := 79) Tryz.underlying22 (by kernel_rfl) (by kernel_rfl) (fun h hs => ob_read h hs) h0 (fun n hn => hs n (by
      simp [DataW.weights, Tryz.underlying25, DataW.weightsEach, hn]))
    obtain ⟨fA, fC, fns, e1, r4, r5, r6, -⟩ := sl_read (f := Fn.cells) (p := FnIn (hw W)) (sz := 5) (by' := 87) Tryz.underlying23 (by kernel_rfl) (by kernel_rfl) (fun h hs => fn_read h hs) h1 (fun n hn => hs n (by
      simp [DataW.weights, Tryz.underlying25, DataW.weightsEach, hn]))
    obtain ⟨mn, e2, -, w2⟩ := DataW.trod_int Tryz.underlying3 h2
    subst e0; subst e1; cases e2
    refine ⟨⟨obs, oA, oC, fns, fA, fC, mn⟩, rfl, ⟨r1, ?_, r4, ?_, r3, r6, in64_wf w2⟩⟩
    · unfold reachBytes at r2; dsimp only; omega
    · unfold reachBytes at r5; dsimp only; omega
end
end Go.Proofs.YtpohhfggmaihpaaGreatDoor

/- The argument of law13's laws, read and read again. -/
namespace Go.Proofs.YtpohhfggmaihpaaGreatDoor
open Go.Wk Go.ChangeShapes Go.WideShapes Go.ChangeAt Go.RowKit
set_option linter.unusedVariables false
set_option maxRecDepth 100000

theorem prog_again {H : Type} {enc : TypeId × Value → H} {W W' : World} {v : Value} {d : DataW H} {p : List MemPlace} (h : DataW.Trod enc Tryz.prog W 0 (fun _ => true) true 25 v d p) (hB : Below W.heap.size W W') (hlt : ∀ x ∈ p, x.block < W.heap.size) :
    DataW.Trod enc Tryz.prog W' 0 (fun b => decide (b < W.heap.size)) true 25 v d p :=
  Below.trod laid_out (by kernel_rfl) (of_decide_eq_true (by kernel_rfl)) h hB hlt
theorem prog_read {H : Type} {enc : TypeId × Value → H} {W : World} {base : Nat} {v : Value} {d : DataW H} {ps : List MemPlace} (hval : Value.okWide Tryz.prog W .any base 25 v) (h : DataW.Trod enc Tryz.prog W 0 (fun _ => true) true 25 v d ps)
    (hs : ∀ n ∈ d.weights Tryz.prog 25, n ≤ reachBytes) : ∃ p : Pr, v = p.val ∧ PrIn (hw W) p := by
  obtain ⟨cs, rfl, -⟩ := okWide_struct Tryz.underlying25 hval
  obtain ⟨fuel, h'⟩ := h
  obtain ⟨p, hp, hin⟩ := pr_read h' hs
  refine ⟨p, ?_, hin⟩
  have e : cs.toList = p.cells := hp
  unfold Pr.val
  rw [← e]
end Go.Proofs.YtpohhfggmaihpaaGreatDoor

/- tac: power. -/
namespace Go.Proofs.YtpohhfggmaihpaaGreatDoor
open Go.Wk
set_option linter.unusedVariables false
set_option linter.unusedSimpArgs false
attribute [local irreducible] G GC GQ GA GS Exit.then Exit.inBlock

theorem power_sp (n : Int) (w : World) : Sp Tryz.prog 44 [.int .i64 n] w [] (fun b : Bool => .bool b) (fun _ => []) (fun b => b = decide (n = 1 ∨ n = 2 ∨ n = 4)) := by
  refine enter (s := Tryz.sx) [] Tryz.func44 rfl rfl rfl (Eff.refl w) ?_
  repeat' (first | refine g_pv rfl rfl ?_ | refine g_nil ?_ | refine gq_then ?_ | refine gc_seq ?_ | refine gc_region ?_)
  refine g_case (t := 5) rfl (fun h => ?_) (fun h => ?_)
  · repeat' (first | refine g_pv rfl rfl ?_ | refine g_nil ?_ | refine gq_then ?_ | refine gc_ret ?_ | refine g_no rfl rfl rfl rfl rfl ?_)
    refine gq_ret1 (.inr rfl) rfl rfl rfl (fun w' H => ⟨true, ?_, rfl, H⟩)
    simp [beq_iff_eq.1 h]
  · repeat' (first | refine g_pv rfl rfl ?_ | refine g_yes rfl rfl rfl ?_)
    refine g_case (t := 9) rfl (fun h2 => ?_) (fun h2 => ?_)
    · repeat' (first | refine g_pv rfl rfl ?_ | refine g_nil ?_ | refine gq_then ?_ | refine gc_ret ?_ | refine g_no rfl rfl rfl rfl rfl ?_)
      refine gq_ret1 (.inr rfl) rfl rfl rfl (fun w' H => ⟨true, ?_, rfl, H⟩)
      simp [beq_iff_eq.1 h2]
    · repeat' (first | refine g_pv rfl rfl ?_ | refine g_nil ?_ | refine gq_then ?_ | refine gc_ret ?_ | refine g_yes rfl rfl rfl ?_)
      refine gq_ret1 (.inr rfl) rfl rfl rfl (fun w' H => ⟨n == 4, ?_, rfl, H⟩)
      have h1 : n ≠ 1 := beq_eq_false_iff_ne.1 h
      have h3 : n ≠ 2 := beq_eq_false_iff_ne.1 h2
      simp [h1, h3, Bool.beq_eq_decide_eq]
end Go.Proofs.YtpohhfggmaihpaaGreatDoor

/- tac: offset. -/
namespace Go.Proofs.YtpohhfggmaihpaaGreatDoor
open Go.Wk
set_option linter.unusedVariables false
set_option linter.unusedSimpArgs false
attribute [local irreducible] G GC GQ GA GS Exit.then Exit.inBlock

def powB (n : Int) : Bool := decide (n = 1 ∨ n = 2 ∨ n = 4)
def offB (x : Ins) : Bool := powB x.width && (decide (x.off ≥ -16384) && decide (x.off ≤ 16384))
theorem offset_sp (x : Ins) (w : World) : Sp Tryz.prog 80 [x.val] w [] (fun b : Bool => .bool b) (fun _ => []) (fun b => b = offB x) := by
  refine enter (s := Tryz.sx) [] Tryz.func80 rfl rfl rfl (Eff.refl w) ?_
  repeat' (first | refine g_pv rfl rfl ?_ | refine g_ld 0 rfl rfl rfl rfl rfl rfl ?_ | refine g_nil ?_ | refine gq_then ?_ | refine gc_seq ?_ | refine gc_region ?_ | refine g_box rfl rfl (fun _ => ?_))
  refine g_call rfl (Cl.of Tryz.func44 rfl rfl) rfl rfl (fun w' hE => power_sp _ w') rfl ?_
  rintro b1 h1
  have h1 : b1 = powB x.width := h1
  repeat' (refine g_pv rfl rfl ?_)
  cases b1
  · repeat' (first | refine g_pv rfl rfl ?_ | refine g_nil ?_ | refine gq_then ?_ | refine gc_ret ?_ | refine g_no rfl rfl rfl rfl rfl ?_)
    refine gq_ret1 (.inr rfl) rfl rfl rfl (fun w' H => ⟨false, ?_, rfl, hp_nil H⟩)
    unfold offB; rw [← h1]; rfl
  · repeat' (first | refine g_pv rfl rfl ?_ | refine g_ld 0 rfl rfl rfl rfl rfl rfl ?_ | refine g_yes rfl rfl rfl ?_)
    refine g_case (t := 11) rfl (fun h => ?_) (fun h => ?_)
    · repeat' (first | refine g_pv rfl rfl ?_ | refine g_ld 0 rfl rfl rfl rfl rfl rfl ?_ | refine g_nil ?_ | refine gq_then ?_ | refine gc_ret ?_ | refine g_yes rfl rfl rfl ?_)
      refine gq_ret1 (.inr rfl) rfl rfl rfl (fun w' H => ⟨_, ?_, rfl, hp_nil H⟩)
      unfold offB; rw [← h1, h]; rfl
    · repeat' (first | refine g_pv rfl rfl ?_ | refine g_nil ?_ | refine gq_then ?_ | refine gc_ret ?_ | refine g_no rfl rfl rfl rfl rfl ?_)
      refine gq_ret1 (.inr rfl) rfl rfl rfl (fun w' H => ⟨false, ?_, rfl, hp_nil H⟩)
      unfold offB; rw [← h1, h]; rfl
end Go.Proofs.YtpohhfggmaihpaaGreatDoor
