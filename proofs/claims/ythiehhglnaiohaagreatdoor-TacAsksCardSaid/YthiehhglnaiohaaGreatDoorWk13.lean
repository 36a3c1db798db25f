/-
  Range over a function: rounds, marks.
-/
import Derived.Test.YthiehhglnaiohaaGreatDoorWk12
import Derived.RangeFuncLeaves
namespace Go.Wk
set_option linter.unusedVariables false
set_option linter.unusedSimpArgs false

/-- The same, with other deferred calls. -/
abbrev wd (X : Cx) (ds : List Deferred) : Cx := { X with ds := ds }
def AgainD (X : Cx) {Y : Type} (post : Y → Prop) (D : Y → List Deferred) (L : Y → LT) (R : Y → RL) (μ : Y → Nat) (m : Nat) : Act → World → Prop := fun a w => ∃ y, post y ∧ μ y < m ∧ Ok (wd X (D y)) a (L y) ∧ Hp X w (R y)
section
variable {X : Cx} {Q : Post} {L : LT} {R : RL}
/-- A loop each round of which may leave marks. -/
theorem gc_loopD {c : Code} {Y : Type} (post : Y → Prop) (Df : Y → List Deferred) (Lf : Y → LT) (Rf : Y → RL) (μ : Y → Nat) (y0 : Y) (hp : post y0) (hD : X.ds = Df y0) (hL : subL L (Lf y0)) (hR : ∀ w, Hp X w R → Hp X w (Rf y0))
    (round : ∀ y, post y → GC (wd X (Df y)) c (Exit.then (AgainD X post Df Lf Rf μ (μ y)) Q) (Lf y) (Rf y)) : GC X (.loop c) Q L R := by
  intro a w ha hE
  refine wpIn_loop (fun a w => ∃ n, ∃ y, μ y = n ∧ post y ∧ Ok (wd X (Df y)) a (Lf y) ∧ Hp X w (Rf y)) (fun a w => leastOf (fun n => ∃ y, μ y = n ∧ post y ∧ Ok (wd X (Df y)) a (Lf y) ∧ Hp X w (Rf y)))
    ⟨μ y0, y0, rfl, hp, ⟨ha.size, by rw [ha.defers, hD], subL.kn ha.kn hL⟩, hR w hE⟩ ?_
  intro a w hI
  obtain ⟨⟨y, hy, hpy, hok, hh⟩, _⟩ := leastOf_spec hI
  refine wpIn_mono (round y hpy a w hok hh) ?_
  intro e a' w' hq
  cases e with
  | normal =>
    obtain ⟨y', hp', hlt, hok', hh'⟩ := hq
    refine ⟨⟨μ y', y', rfl, hp', hok', hh'⟩, ?_⟩
    have hI' : ∃ n, ∃ y, μ y = n ∧ post y ∧ Ok (wd X (Df y)) a' (Lf y) ∧ Hp X w' (Rf y) := ⟨μ y', y', rfl, hp', hok', hh'⟩
    refine Nat.lt_of_le_of_lt ((leastOf_spec hI').2 (μ y') ⟨y', rfl, hp', hok', hh'⟩) ?_
    rw [← hy]; exact hlt
  | exit id => exact hq
  | goto l => exact hq
  | ret => exact hq
  | panic ch => exact hq
  | outgrown => exact hq
theorem gq_againD {ds : List Deferred} {Y : Type} {post : Y → Prop} {Df : Y → List Deferred} {Lf : Y → LT} {Rf : Y → RL} {μ : Y → Nat} {m : Nat} (y : Y) (hp : post y) (hμ : μ y < m) (hD : ds = Df y) (hL : subL L (Lf y)) (hR : ∀ w, Hp X w R → Hp X w (Rf y)) :
    GQ (wd X ds) (Exit.then (AgainD X post Df Lf Rf μ m) Q) .normal L R := fun _ w ha hE => ⟨y, hp, hμ, ⟨ha.size, by rw [ha.defers]; exact hD, subL.kn ha.kn hL⟩, hR w hE⟩

/-- A round of the loop l, as a call: of own memory A. -/
def Yp {Y : Type} (P : Program) (l : Nat) (args : List Value) (w : World) (A : HL) (v : Y → Value) (A' : Y → RL) (post : Y → Prop) : Prop :=
  ∃ f tmps assign body, (Instr.yield l args.toArray).run P w = .ok (.round l f tmps assign body) w ∧
    RoundIn (Fr none) 0 P l f tmps assign body w (fun e w' => ∃ y, post y ∧ e = .returned (v y) ∧ Eff w A w' (A' y).flatten)
/-- yield(..): a round, handed the part of R that is ahead. -/
theorem g_yield {ops : Array Oper} {rest : List Oper} {d : Nat} {ty : TypeId} {p : String} {af : Array Edge} {l : Nat} {f : Operand} {xs : Array Operand} {ats : Array TypeId} {vs : List Value} {Y : Type} {vf : Y → Value} {post : Y → Prop} {A' : Y → RL} {A : HL} {F : RL}
    (hro : X.ro = none) (hn : X.n = 0) (hR : R = A :: F) (hf : ev L f = some (.func (.yield l) #[] #[])) (hxs : evs L xs.toList = some vs)
    (hc : ∀ w, Hp X w (A :: F) → Yp X.s.P l vs w A vf A' post)
    (hN : Nat.blt d X.N = true) (k : ∀ y, post y → G X ops Q rest ((d, vf y) :: L) (A' y ++ F)) :
    G X ops Q (⟨some d, .call ⟨.value f, xs, ats⟩, ty, p, af, none⟩ :: rest) L R := by
  intro a w ha hE
  refine wpListIn_plain rfl (fun K hK => ?_)
  refine ⟨fun _ _ => trivial, ?_⟩
  rw [Oper.semAt_eq _ _ _ (by intro c h; cases h)]
  have hmap : xs.map a.eval = vs.toArray := by
    have := evs_map (fun x u h => ha.kn.ev h) hxs
    apply Array.ext'; simpa using this
  have hE' : Hp X w (A :: F) := hR ▸ hE
  obtain ⟨g, tmps, asg, body, hy, hround⟩ := hc w hE'
  have hrun : (execOp a.eval ⟨some d, .call ⟨.value f, xs, ats⟩, ty, p, af, none⟩).run X.s.P w = .ok (.round l g tmps asg body) w := by
    simp only [execOp, resolve, hmap, ha.kn.ev hf, Deferred.ofValue, Sem.run_bind, run_pure', Result.andThen_ok, invoke]
    simpa using hy
  rw [hrun, Oper.uponIn_round]
  refine ⟨fun h => by simp [Fence.wide] at h, ?_⟩
  rw [hro, hn]
  refine RoundIn.mono hround ?_
  rintro e w' ⟨y, hp, rfl, E⟩
  refine hK _ _ (k y hp _ _ (ha.put hN _) ?_)
  unfold Hp at hE' ⊢
  rw [List.flatten_cons] at hE'
  have := Eff.seq hE' E
  rw [List.flatten_append]; exact this
/-- The record of a loop. -/
abbrev rec (fn : FuncId) (tm : Array Value) (ps : Array Tmp) (assign body : Code) (D : Nat) (st : LoopState) (pe : Option Code) : Obj := .loop { state := st, pending := pe, fn, tmps := tm, params := ps, assign, body, defers := D }

/-- A round, out of the walk of its assignment and its body. -/
theorem round_sp {s : Sx} {Y : Type} {l D : Nat} {fn : FuncId} {tm : Array Value} {ps : Array Tmp} {asg body : Code} {N : Nat} {args : List Value} {w : World} {A B : HL} {A' : Y → HL} {post : Y → Prop} {L1 : LT}
    (hE : Eff w ((l, rec fn tm ps asg body D .ready none) :: A) w ((l, rec fn tm ps asg body D .ready none) :: A)) (hsz : args.length = ps.size) (htm : tm.size = N)
    (hL : Kn { tmps := (ps.zip args.toArray).foldl (fun t (q : Tmp × Value) => t.setIfInBounds q.1 q.2) tm, defers := [] } L1)
    (h : GC ⟨s, some l, 0, N, [], w, (l, rec fn tm ps asg body D .ready none) :: A⟩ asg
      (Exit.then (fun a1 w1 => ∃ w2, (Instr.beginRound l).run s.P w1 = .ok () w2 ∧ body.wpIn (Fr (some l)) 0 s.P (roundPost s.P l (fun e w' => ∃ y, post y ∧ e = .returned (.bool true) ∧ Eff w ((l, rec fn tm ps asg body D .ready none) :: A) w' ((l, rec fn tm ps asg body D .ready none) :: A' y))) a1 w2) (fun _ _ _ => False))
      L1 [[(l, rec fn tm ps asg body D .ready none)], A]) :
    Yp s.P l args w ((l, rec fn tm ps asg body D .ready none) :: A) (fun _ : Y => .bool true) (fun y => [(l, rec fn tm ps asg body D .ready none) :: A' y]) post := by
  have hl := hE.holds l _ List.mem_cons_self
  have hg := run_getObj (P := s.P) hl (by intro c e f h; cases h)
  refine ⟨fn, (ps.zip args.toArray).foldl (fun t (q : Tmp × Value) => t.setIfInBounds q.1 q.2) tm, asg, body, ?_, ?_⟩
  · simp only [Instr.yield, Instr.getLoop, Sem.run_bind, hg, Result.andThen_ok, run_pure']
    simp [hsz]
  · have hz : ∀ (zs : List (Tmp × Value)) (t : Array Value), (zs.foldl (fun t (q : Tmp × Value) => t.setIfInBounds q.1 q.2) t).size = t.size := fun zs => by
      induction zs with
      | nil => intro t; rfl
      | cons q zs ih => intro t; rw [List.foldl_cons, ih]; simp
    have hsize : ((ps.zip args.toArray).foldl (fun t (q : Tmp × Value) => t.setIfInBounds q.1 q.2) tm).size = N := by
      rw [← htm, ← Array.foldl_toList]; exact hz _ _
    have h1 := h _ w ⟨hsize, rfl, hL⟩ (by simpa [Hp] using hE)
    exact RoundIn.mono (roundIn_of_wpIn (F := Fr none) (n := 0) (by simp [Fence.wide]) h1) (fun e w' ⟨y, hp, he, E⟩ => ⟨y, hp, he, by simpa using E⟩)
abbrev mark (D : Nat) : Deferred := { target := .collected D, args := #[] }
abbrev mks (Ds : List Nat) : List Deferred := Ds.map mark
abbrev mkb (Ds : List Nat) : HL := Ds.map fun D => (D, .deferred (some []))
/-- for .. := range g { .. }. -/
theorem gc_range {g : Operand} {ps : Array Tmp} {asg body : Code} {gf : FuncId} {cp : Array Value} {Y : Type} {post : Y → Prop} {A' : Y → HL} {A : HL} {F : RL} (hro : X.ro = none) (hn : X.n = 0) (hR : R = A :: F)
    (hg : ev L g = some (.func (.func gf) #[] cp)) (hcl : Cl X.s.P gf)
    (hit : ∀ l D fn tm w, tm.size = X.N → Kn { tmps := tm, defers := [] } L → Hp X w (((l, rec fn tm ps asg body D .ready none) :: A) :: [(D, .deferred (some []))] :: F) →
      Sp X.s.P gf (.func (.yield l) #[] #[] :: cp.toList) w ((l, rec fn tm ps asg body D .ready none) :: A) (fun _ : Y => .tuple #[]) (fun y => [(l, rec fn tm ps asg body D .ready none) :: A' y]) post)
    (k : ∀ D y, post y → GQ (wd X (mark D :: X.ds)) Q .normal L (A' y :: [(D, .deferred (some []))] :: F)) : GC X (.rangeFunc g ps asg body) Q L R := by
  intro a w ha hE
  rw [hR] at hE
  refine wpIn_rangeFunc (fun fn hfn => ?_)
  let D := w.heap.size
  let w1 := w.alloc (.deferred (some []))
  let l := w1.heap.size
  let r := rec fn a.tmps ps asg body D .ready none
  let w2 := w1.alloc r
  have hE1 : Hp X w1 ([(D, .deferred (some []))] :: A :: F) := by
    have := Eff.seq0 hE (Eff.alloc w (.deferred (some [])))
    unfold Hp; simpa using this
  have hE2 : Hp X w2 ([(l, r)] :: [(D, .deferred (some []))] :: A :: F) := by
    have := Eff.seq0 hE1 (Eff.alloc w1 r)
    unfold Hp; simpa using this
  have hE3 : Hp X w2 (((l, r) :: A) :: [(D, .deferred (some []))] :: F) := hp_cnt [] hE2 (fun x => by
    simp only [List.flatten_cons, List.flatten_nil, List.count_append, List.count_cons, List.count_nil, List.append_nil]; omega)
  have hkn : Kn { tmps := a.tmps, defers := [] } L := fun i v h => ha.kn i v h
  have hsp := hit l D fn a.tmps w2 ha.size hkn hE3
  refine ⟨l, [mark D], w2, ⟨.fn (.func gf) cp, #[.func (.yield l) #[] #[]]⟩, w2, gf, (.func (.yield l) #[] #[] :: cp.toList).toArray, w2, ?_, ?_, ?_, ?_, ?_, ?_⟩
  · show (Instr.enterLoop fn a.tmps ps asg body X.ro).run X.s.P w = _
    rw [hro]
    simp only [Instr.enterLoop, Sem.run_bind, run_newObj_alloc, Result.andThen_ok, run_pure']
    rfl
  · simp only [resolve, rangeCall, ha.kn.ev hg, Deferred.ofValue, run_pure']
    simp [Act.eval]
  · intro f' _; trivial
  · show (callFunc gf (#[Value.func (.yield l) #[] #[]] ++ cp)).run X.s.P w2 = _
    have e : (#[Value.func (.yield l) #[] #[]] ++ cp) = (Value.func (.yield l) #[] #[] :: cp.toList).toArray := by apply Array.ext'; simp
    rw [e]; exact hcl _ _
  · intro h; simp [Fence.wide] at h
  · have h1 : CallsIn Fence.wide (X.n - 1) X.s.P gf (.func (.yield l) #[] #[] :: cp.toList).toArray w2 (fun e w' => ∃ y, post y ∧ e = .returned (.tuple #[]) ∧ Eff w2 ((l, r) :: A) w' [(l, r) :: A' y].flatten) := callsIn_wide.2 hsp
    have h2 : CallsIn (Fr X.ro) (X.n - 1) X.s.P gf (.func (.yield l) #[] #[] :: cp.toList).toArray w2 (fun e w' => ∃ y, post y ∧ e = .returned (.tuple #[]) ∧ Eff w2 ((l, r) :: A) w' [(l, r) :: A' y].flatten) := by rw [hro]; exact h1
    refine CallsIn.mono h2 ?_
    rintro e w3 ⟨y, hp, rfl, E⟩
    have hE4 : Hp X w3 (((l, r) :: A' y) :: [(D, .deferred (some []))] :: F) := by
      unfold Hp at hE3 ⊢
      rw [List.flatten_cons] at hE3
      have := Eff.seq hE3 E
      simpa using this
    have hl : w3.heap[l]? = some (rec fn a.tmps ps asg body D .ready none) := hE4.holds l r (by simp)
    have hE5 := Eff.setObj (o' := rec fn a.tmps ps asg body D .exhausted none) hl
    have hE6 : Hp X w3 ([(l, r)] :: A' y :: [(D, .deferred (some []))] :: F) := hp_cnt [] hE4 (fun x => by
      simp only [List.flatten_cons, List.flatten_nil, List.count_append, List.count_cons, List.count_nil, List.append_nil]; omega)
    have hE7 : Hp X { w3 with heap := w3.heap.setIfInBounds l (rec fn a.tmps ps asg body D .exhausted none) } (A' y :: [(D, .deferred (some []))] :: F) := by
      unfold Hp at hE6
      rw [List.flatten_cons] at hE6
      exact hp_tail (A := [(l, rec fn a.tmps ps asg body D .exhausted none)]) (by unfold Hp; rw [List.flatten_cons]; exact Eff.seq hE6 hE5)
    refine ⟨none, _, ?_, k D y hp { a with defers := [mark D] ++ a.defers } _ ⟨ha.size, by show [mark D] ++ a.defers = _; rw [ha.defers]; rfl, ha.kn⟩ hE7⟩
    have hg' := run_getObj (P := X.s.P) hl (by intro c e f h; cases h)
    have hs' := run_setObj (P := X.s.P) hl (by intro c e f h; cases h) (rec fn a.tmps ps asg body D .exhausted none)
    simp only [Instr.endLoop, Instr.getLoop, Sem.run_bind, hg', Result.andThen_ok, run_pure']
    simp only [beq_iff_eq, reduceCtorEq, if_false, Sem.run_bind, run_pure', Result.andThen_ok, hs']
/-- The beginning of a round. -/
theorem gq_begin {l D : Nat} {fn : FuncId} {tm : Array Value} {ps : Array Tmp} {asg body : Code} {Q' : Post} {F : RL} (hR : R = [(l, rec fn tm ps asg body D .ready none)] :: F)
    (h : GC X body Q' L ([(l, rec fn tm ps asg body D .busy none)] :: F)) :
    GQ X (Exit.then (fun a1 w1 => ∃ w2, (Instr.beginRound l).run X.s.P w1 = .ok () w2 ∧ body.wpIn (Fr X.ro) X.n X.s.P Q' a1 w2) Q) .normal L R := by
  intro a w ha hE
  rw [hR] at hE
  have hl : w.heap[l]? = some (rec fn tm ps asg body D .ready none) := hE.holds l _ (by simp)
  have hg' := run_getObj (P := X.s.P) hl (by intro c e f h; cases h)
  have hs' := run_setObj (P := X.s.P) hl (by intro c e f h; cases h) (rec fn tm ps asg body D .busy none)
  refine ⟨{ w with heap := w.heap.setIfInBounds l (rec fn tm ps asg body D .busy none) }, ?_, h a _ ha ?_⟩
  · simp only [Instr.beginRound, Instr.getLoop, Sem.run_bind, hg', Result.andThen_ok, run_pure', hs']
  · unfold Hp at hE ⊢
    rw [List.flatten_cons] at hE ⊢
    exact Eff.seq hE (Eff.setObj hl)
/-- The end of a round. -/
theorem gq_endRound {l D : Nat} {fn : FuncId} {tm : Array Value} {ps : Array Tmp} {asg body : Code} {F : RL} {Y : Type} {post : Y → Prop} {A' : Y → HL} (hR : R = [(l, rec fn tm ps asg body D .busy none)] :: F) (y : Y) (hp : post y)
    (hF : ∀ w, Hp X w ([(l, rec fn tm ps asg body D .ready none)] :: F) → Hp X w [(l, rec fn tm ps asg body D .ready none) :: A' y]) :
    GQ X (roundPost X.s.P l (fun e w' => ∃ y, post y ∧ e = .returned (.bool true) ∧ Eff X.w0 X.A0 w' ((l, rec fn tm ps asg body D .ready none) :: A' y))) .normal L R := by
  intro a w ha hE
  rw [hR] at hE
  have hl : w.heap[l]? = some (rec fn tm ps asg body D .busy none) := hE.holds l _ (by simp)
  have hg' := run_getObj (P := X.s.P) hl (by intro c e f h; cases h)
  have hs' := run_setObj (P := X.s.P) hl (by intro c e f h; cases h) (rec fn tm ps asg body D .ready none)
  refine ⟨.bool true, { w with heap := w.heap.setIfInBounds l (rec fn tm ps asg body D .ready none) }, ?_, y, hp, rfl, ?_⟩
  · simp only [Instr.endRound, Instr.getLoop, Sem.run_bind, hg', Result.andThen_ok, run_pure', Option.isNone_none, if_true, hs']
  · have : Hp X { w with heap := w.heap.setIfInBounds l (rec fn tm ps asg body D .ready none) } ([(l, rec fn tm ps asg body D .ready none)] :: F) := by
      unfold Hp at hE ⊢
      rw [List.flatten_cons] at hE ⊢
      exact Eff.seq hE (Eff.setObj hl)
    simpa [Hp] using hF _ this
/-- All marks are taken in. -/
theorem leaves_marks {s : Sx} {fn : Func} {tm : Array Value} {Rp : Ending → World → Prop} {w0 : World} {A0 : HL} (B : HL) : ∀ (Ds : List Nat) (w : World), Eff w0 A0 w (mkb Ds ++ B) →
    (∀ w', Eff w0 A0 w' B → ∃ v, (results fn tm).run s.P w' = .ok v w' ∧ Rp (.returned v) w') → LeavesInM Fence.wide 0 s.P fn tm Rp (mks Ds) .returning w
  | [], w, E, h => h w E
  | D :: Ds, w, E, h => by
    have hl : w.heap[D]? = some (.deferred (some [])) := E.holds D _ (by simp)
    have hg' := run_getObj (P := s.P) hl (by intro c e f h; cases h)
    have hs' := run_setObj (P := s.P) hl (by intro c e f h; cases h) (.deferred none)
    refine ⟨(by intro h; cases h), .inl ⟨D, { w with heap := w.heap.setIfInBounds D (.deferred none) }, rfl, ?_, leaves_marks B Ds _ ?_ h⟩⟩
    · simp only [Instr.takeDeferred, Sem.run_bind, hg', Result.andThen_ok, run_pure', hs']
    · have := Eff.seq (X := [(D, .deferred (some []))]) (F := mkb Ds ++ B) (by simpa using E) (Eff.setObj (o' := .deferred none) hl)
      exact Eff.sel this [(D, .deferred none)] List.perm_append_comm
theorem enterM {s : Sx} {f : FuncId} {fn : Func} {c : Code} {args : List Value} {w : World} {Rp : Ending → World → Prop} (A0 : RL) {A : HL} {N : Nat} (hA : A0.flatten = A)
    (hf : s.P.funcs[f]? = some fn) (hb : fn.body = some c) (hN : fn.ntmps = N) (hlen : Nat.ble args.length N = true)
    (hE : Eff w A w A)
    (h : GC ⟨s, none, 0, N, [], w, A⟩ c (bodyPostM Fence.wide 0 s.P fn Rp) (zipL 0 args) A0) : Calls s.P f args.toArray w Rp := by
  subst hA
  have hle := Nat.le_of_ble_eq_true hlen
  refine callsIn_wide.1 (callsIn_of_wp_marks (F := Fence.wide) (n := 0) hf hb trivial ?_)
  refine h _ w ⟨?_, rfl, ?_⟩ hE
  · simp [hN]; omega
  · intro i v hi
    obtain ⟨j, rfl, hj⟩ := lk_zipL args 0 i v hi
    have hlt : j < args.length := (List.getElem?_eq_some_iff.1 hj).1
    simp only [Nat.zero_add, Array.getD_eq_getD_getElem?]
    rw [Array.getElem?_append_left (by simpa using hlt)]
    simp [hj]
theorem gq_ret1M {e : Exit} {fn : Func} {Rp : Ending → World → Prop} (he : e = .normal ∨ e = .ret) (Ds : List Nat) (hds : X.ds = mks Ds) {F : RL} (hR : ∀ w, Hp X w R → Hp X w (mkb Ds :: F)) {t : Tmp} (hfn : fn.results = #[.tmp t]) {v : Value} (hv : lk L t = some v)
    (k : ∀ w, Hp X w F → Rp (.returned v) w) : GQ X (bodyPostM Fence.wide 0 X.s.P fn Rp) e L R := by
  intro a w ha hE
  have key : LeavesInM Fence.wide 0 X.s.P fn a.tmps Rp a.defers .returning w := by
    rw [ha.defers, hds]
    exact leaves_marks F.flatten Ds w (by have := hR w hE; unfold Hp at this; simpa using this) (fun w' E => ⟨v, by rw [results_tmp hfn, ha.kn _ _ hv], k w' E⟩)
  rcases he with rfl | rfl <;> exact key
end
end Go.Wk
