/-
  The iteration: its measure; where it stands still.
  Maps of old memory.
  flow.idom's meet.
  The search's order numbers the nodes; the ways into each node.
  Range over a function: rounds, marks.
  The library's Backward at []int: what is ranged over.
  The nearest dominators: what a pass and the whole iteration know (plain).
  flow.idom.
-/
import Derived.Test.YtpmkkmahimdjkaaZ12
import Derived.Test.YtpmkkmahimdjkaaZ11
import Derived.RangeFuncLeaves

/- The iteration: its measure; where it stands still. -/
namespace Go.Proofs.Ytpmkkmahimdjkaa
set_option linter.unusedVariables false

structure Hist (es : Nat → List Int) (num : Nat → Nat) (fr : Nat → List Int) (s : List Int) : Prop where
  good : Good es num s
  full : ∀ v, R0 es v → df s v
  fwd : Fwd es num s
  prev : ∃ s0, Good es num s0 ∧ One es num fr s0 s ∧ ((∀ u, df s0 u → u = 0) ∨ ((∀ v, R0 es v → df s0 v) ∧ Fwd es num s0 ∧ ∀ v, R0 es v → ∀ b, Ch s v b → Ch s0 v b))
def wgt (num : Nat → Nat) (M : Nat) (vs : List Nat) (s : List Int) : Nat := (vs.map fun v => M - num (ou s v)).sum

theorem Hist.first {es : Nat → List Int} {num : Nat → Nat} {M n : Nat} {fr : Nat → List Int} {vs : List Nat} (N : Num es num M) (F : Fr es fr n) (O : Ord es num vs) {s s' : List Int} (G : Good es num s) (hl : s.length = n) (h0 : ∀ u, df s u → u = 0) (h : Pass num fr s vs s') : Hist es num fr s' := by
  obtain ⟨g, d, o⟩ := h.ones N F O G hl
  exact ⟨g, d, o.fwd N F g d, s, G, o, .inl h0⟩
theorem Hist.next {es : Nat → List Int} {num : Nat → Nat} {M n : Nat} {fr : Nat → List Int} {vs : List Nat} (N : Num es num M) (F : Fr es fr n) (O : Ord es num vs) {s s' : List Int} (H : Hist es num fr s) (hl : s.length = n) (h : Pass num fr s vs s') :
    Hist es num fr s' ∧ ∀ v, R0 es v → ∀ b, Ch s' v b → Ch s v b := by
  obtain ⟨g, d, o⟩ := h.ones N F O H.good hl
  obtain ⟨s0, G0, o0, hAB⟩ := H.prev
  have hm : ∀ v, R0 es v → ∀ b, Ch s' v b → Ch s v b := fun v hv b hb => monM N F G0 H.good g H.full d o0 o hAB _ v rfl hv b hb
  exact ⟨⟨g, d, o.fwd N F g d, s, H.good, o, .inr ⟨H.full, H.fwd, hm⟩⟩, hm⟩

theorem up_of_mon {es : Nat → List Int} {num : Nat → Nat} {M : Nat} (N : Num es num M) {s s' : List Int} (G : Good es num s) (G' : Good es num s') (d : ∀ v, R0 es v → df s v) (d' : ∀ v, R0 es v → df s' v) (hm : ∀ v, R0 es v → ∀ b, Ch s' v b → Ch s v b) {v : Nat} (hv : R0 es v) (h0 : v ≠ 0) :
    num (ou s v) ≤ num (ou s' v) ∧ (num (ou s v) = num (ou s' v) → s'.getD v (-1) = s.getD v (-1)) := by
  have u1 := G.up v (d v hv) h0
  have u2 := G'.up v (d' v hv) h0
  have c := hm v hv _ (.up h0 (.here _))
  have c2 : Ch s (ou s v) (ou s' v) := by
    generalize hx : ou s' v = x at c u2
    cases c with
    | here _ => omega
    | up _ h => exact h
  refine ⟨(G.num_le c2 u1.1).1, fun he => ?_⟩
  have e := N.inj _ _ (G.rch _ u1.1) (G'.rch _ u2.1) he
  have h1 := d v hv
  have h2 := d' v hv
  unfold ou at e
  unfold df at h1 h2
  omega

theorem wgt_le {num : Nat → Nat} {M : Nat} {s s' : List Int} {vs : List Nat} (h : ∀ v ∈ vs, num (ou s v) ≤ num (ou s' v)) : wgt num M vs s' ≤ wgt num M vs s := by
  induction vs with
  | nil => exact Nat.le_refl _
  | cons v vs ih =>
    have h1 := h v List.mem_cons_self
    have h2 := ih (fun u hu => h u (List.mem_cons_of_mem _ hu))
    unfold wgt at h2 ⊢
    simp only [List.map_cons, List.sum_cons]
    omega
theorem wgt_lt {num : Nat → Nat} {M : Nat} {s s' : List Int} {vs : List Nat} (h : ∀ v ∈ vs, num (ou s v) ≤ num (ou s' v)) {v : Nat} (hv : v ∈ vs) (hlt : num (ou s v) < num (ou s' v)) (hM : num (ou s' v) < M) : wgt num M vs s' < wgt num M vs s := by
  induction vs with
  | nil => cases hv
  | cons u vs ih =>
    have h1 := h u List.mem_cons_self
    have h3 := wgt_le (M := M) (fun w hw => h w (List.mem_cons_of_mem _ hw))
    unfold wgt at h3 ih ⊢
    simp only [List.map_cons, List.sum_cons]
    rcases List.mem_cons.1 hv with h4 | h4
    · subst h4; omega
    · have := ih (fun w hw => h w (List.mem_cons_of_mem _ hw)) h4; omega
/-- Each pass that turns something weighs less. -/
theorem Hist.less {es : Nat → List Int} {num : Nat → Nat} {M n : Nat} {fr : Nat → List Int} {vs : List Nat} (N : Num es num M) (F : Fr es fr n) (O : Ord es num vs) {s s' : List Int} (H : Hist es num fr s) (hl : s.length = n) (h : Pass num fr s vs s') {v : Nat} (hv : v ∈ vs) (hne : s'.getD v (-1) ≠ s.getD v (-1)) :
    wgt num M vs s' < wgt num M vs s := by
  obtain ⟨H', hm⟩ := H.next N F O hl h
  have key := fun u (hu : u ∈ vs) => up_of_mon N H.good H'.good H.full H'.full hm ((O.mem u).1 hu).1 ((O.mem u).1 hu).2
  have hr := (O.mem v).1 hv
  refine wgt_lt (fun u hu => (key u hu).1) hv ?_ (N.bd _ (H'.good.rch _ (H'.good.up v (H'.full v hr.1) hr.2).1))
  rcases Nat.lt_or_eq_of_le (key v hv).1 with h1 | h1
  · exact h1
  · exact absurd ((key v hv).2 h1) hne

theorem Ch.congr {s t : List Int} (h : ∀ u, t.getD u (-1) = s.getD u (-1)) {a b : Nat} (c : Ch s a b) : Ch t a b := by
  induction c with
  | here a => exact .here a
  | @up a c h0 _ ih => exact .up h0 (by rw [ou_same (h a)]; exact ih)
/-- Chains hold all dominators. -/
theorem Good.chain {es : Nat → List Int} {num : Nat → Nat} {M : Nat} {s : List Int} (N : Num es num M) (G : Good es num s) : ∀ (k v d : Nat), M - num v = k → df s v → Dm es d v → Ch s v d := by
  intro k
  induction k using Nat.strongRecOn with
  | _ k ih =>
    intro v d hk hv hd
    by_cases h : d = v
    · subst h; exact .here d
    · by_cases h0 : v = 0
      · subst h0
        have h1 := N.dom hd
        by_cases hd0 : d = 0
        · exact absurd hd0 h
        · exact absurd (RchW.base (es := es) (w := d) (Ne.symm hd0)) hd.2
      · have h1 := G.up v hv h0
        have h2 := N.bd _ (G.rch _ h1.1)
        exact .up h0 (ih (M - num (ou s v)) (by omega) _ d rfl h1.1 (G.snd v hv h0 d hd h))
/-- Where the iteration stands still chains are just the dominators. -/
theorem still_dom {es : Nat → List Int} {num : Nat → Nat} {M n : Nat} {fr : Nat → List Int} (N : Num es num M) (F : Fr es fr n) {s : List Int} (G : Good es num s) (hd : ∀ v, R0 es v → df s v) (o : One es num fr s s) {v c : Nat} (hv : R0 es v) : Ch s v c ↔ Dm es c v := by
  constructor
  · intro hc
    refine ⟨hv, fun hw => ?_⟩
    have key : ∀ u, RchW es c u → ¬ Ch s u c := by
      intro u hu
      induction hu with
      | base h0 => intro h; cases h with
        | here _ => exact h0 rfl
        | up h _ => exact h rfl
      | @step u v h1 h2 h3 ih =>
        intro h
        have hvr := Rch.step h1.rch h2
        cases h with
        | here _ => exact h3 rfl
        | up h0 h =>
          obtain ⟨t, t1, t2, t3, t4⟩ := o v hvr h0
          have ht : ∀ u, t.getD u (-1) = s.getD u (-1) := fun u => by
            by_cases hu : R0 es u ∧ num v < num u
            · exact t3 u hu
            · exact t4 u hu
          have hn : ¬ s.getD v (-1) < 0 := by have := hd v hvr; unfold df at this; omega
          obtain ⟨_, _, x3, _, _⟩ := (t2.spec N t1 (F.nn v) (fun _ => rfl) (fun h => absurd (by omega : (-1 : Int) < 0) h)).2 hn
          have c1 : Ch t u (ou s v) := x3 u (F.all u v h1.rch h2) ((df_same (ht u)).2 (hd u h1.rch))
          exact ih ((Ch.congr (fun u => (ht u).symm) c1).trans h)
    exact key v hw hc
  · exact fun h => G.chain N _ v c rfl (hd v hv) h
/-- The nearest strict dominator. -/
def Near (es : Nat → List Int) (d v : Nat) : Prop := Dm es d v ∧ d ≠ v ∧ ∀ c, Dm es c v → c ≠ v → Dm es c d
theorem Near.uniq {es : Nat → List Int} {num : Nat → Nat} {M : Nat} (N : Num es num M) {a b v : Nat} (h1 : Near es a v) (h2 : Near es b v) : a = b := N.anti (h2.2.2 a h1.1 h1.2.1) (h1.2.2 b h2.1 h2.2.1)
theorem still_near {es : Nat → List Int} {num : Nat → Nat} {M n : Nat} {fr : Nat → List Int} (N : Num es num M) (F : Fr es fr n) {s : List Int} (G : Good es num s) (hd : ∀ v, R0 es v → df s v) (o : One es num fr s s) {v : Nat} (hv : R0 es v) (h0 : v ≠ 0) : Near es (ou s v) v := by
  have u1 := G.up v (hd v hv) h0
  exact ⟨(still_dom N F G hd o hv).1 (.up h0 (.here _)), fun h => by rw [h] at u1; omega, fun c hc hne => G.snd v (hd v hv) h0 c hc hne⟩
end Go.Proofs.Ytpmkkmahimdjkaa

/- Maps of old memory. -/
namespace Go.Wk
set_option linter.unusedVariables false
theorem g_lookO {X : Cx} {ops : Array Oper} {Q : Post} {rest : List Oper} {L : LT} {R : RL} {d : Nat} {x y : Operand} {t ty : TypeId} {p : String} {af : Array Edge} {κ : Type} [DecidableEq κ] {kf : κ → Value} {kv : List (κ × Value)} {es : Array MapEntry} {clock : Nat}
    {r : Nat} {k : κ} {kt et : TypeId} {z : Value} {s b : Nat} {te : Ti} (hR : Oldh X r = some (.map es clock)) (hx : ev L x = some (.map (some r))) (hy : ev L y = some (kf k)) (ht : tl X.s.tab t = some ⟨.map kt et, z, s, b⟩) (hte : tl X.s.tab et = some te)
    (K : KL X.s.P kt kf) (M : MapIs kf kv es clock) (hN : Nat.blt d X.N = true) (k' : G X ops Q rest ((d, (ml kv k).getD te.z) :: L) R) :
    G X ops Q (⟨some d, .lookup t x y false, ty, p, af, none⟩ :: rest) L R :=
  g_run (Y := Unit) (fun _ => (ml kv k).getD te.z) (fun _ => R) (fun _ => True) rfl rfl hN (by intro c h; cases h)
    (fun a w ha hE => ⟨(), w, by
      have hr := run_lookup (X.s.ok.at ht) (X.s.ok.at hte) K M (show w.heap[r]? = _ from old_hw hE hR) k false
      simp only [execOp]
      rw [ha.kn.ev hx, ha.kn.ev hy, Sem.run_bind, hr]; rfl, hE, trivial⟩) (fun _ _ => k')
end Go.Wk

/- flow.idom's meet. -/
namespace Go.Proofs.Ytpmkkmahimdjkaa
open Go.Wk
set_option linter.unusedVariables false
set_option linter.unusedSimpArgs false
attribute [local irreducible] G GC GQ GA GS Exit.then Exit.inBlock

/-- Memory H holds the numbers and what is known. -/
structure MeetIn (H : Nat → Option Obj) (es : Nat → List Int) (num : Nat → Nat) (bm bo : Nat) (ds : List Int) : Prop where
  map : ∃ r en clock kv, cellAt H bm 0 = some (.map (some r)) ∧ H r = some (.map en clock) ∧ MapIs KI kv en clock ∧ ∀ v, R0 es v → (ml kv (v : Int)).getD (.int .i64 0) = .int .i64 (num v)
  row : ∃ od cap, cellAt H bo 0 = some (.slice od ds.length cap) ∧ Rd H fI 1 od ds
theorem MeetIn.le {H1 H2 : Nat → Option Obj} (h : Hle H1 H2) {es : Nat → List Int} {num : Nat → Nat} {bm bo : Nat} {ds : List Int} (m : MeetIn H1 es num bm bo ds) : MeetIn H2 es num bm bo ds := by
  obtain ⟨⟨r, en, clock, kv, m1, m2, m3, m4⟩, ⟨od, cap, r1, r2⟩⟩ := m
  exact ⟨⟨r, en, clock, kv, h.cell m1, h _ _ m2, m3, m4⟩, ⟨od, cap, h.cell r1, r2.le h⟩⟩

theorem meet_sp {es : Nat → List Int} {num : Nat → Nat} {M n : Nat} (N : Num es num M) (hlt : ∀ v, R0 es v → v < n) (ds : List Int) (hl : ds.length = n) (G : Good es num ds) (bm bo a b : Nat) (w : World) (hm : MeetIn (hw w) es num bm bo ds) (ha : df ds a) (hb : df ds b) :
    Sp Try.prog 50 [.int .i64 a, .int .i64 b, .pointer (some ⟨bm, 0, none⟩), .pointer (some ⟨bo, 0, none⟩)] w [] (fun y : Nat => .int .i64 y) (fun _ => []) (fun y => Meet num ds a b y) := by
  obtain ⟨⟨r, en, clock, kv, m1, m2, m3, m4⟩, ⟨od, cap, r1, r2⟩⟩ := hm
  refine enter (s := Try.sx) [] Try.func50 rfl rfl rfl (Eff.refl w) ?_
  repeat' (first | refine g_pv rfl rfl ?_ | refine g_nil ?_ | refine gq_then ?_ | refine gc_seq ?_ | refine gc_region ?_ | refine gc_block ?_)
  refine gc_loop (Y := Nat × Nat) (fun y => df ds y.1 ∧ df ds y.2 ∧ ∀ c, Meet num ds y.1 y.2 c → Meet num ds a b c)
    (fun y => [(0, .int .i64 y.1), (1, .int .i64 y.2), (2, .pointer (some ⟨bm, 0, none⟩)), (3, .pointer (some ⟨bo, 0, none⟩))]) (fun _ => [])
    (fun y => (M - num y.1) + (M - num y.2)) (a, b) ⟨ha, hb, fun c h => h⟩ ⟨rfl, rfl, rfl, rfl, trivial⟩ (fun w' H => H) ?_
  rintro ⟨x, y⟩ ⟨hx, hy, hI⟩
  try dsimp only at hx hy hI ⊢
  have rx := G.rch x hx
  have ry := G.rch y hy
  have bx := N.bd x rx
  have bY := N.bd y ry
  repeat' (first | refine g_pv rfl rfl ?_ | refine g_nil ?_ | refine gq_then ?_ | refine gc_seq ?_ | refine gc_region ?_)
  refine gc_condC rfl (fun hc => ?_) (fun hc => ?_)
  · have hne : x ≠ y := fun h => by subst h; simp at hc
    repeat' (first | refine gq_then ?_ | refine gc_seq ?_ | refine gc_region ?_ | refine gc_block ?_ | refine gc_skip ?_)
    refine g_ldO rfl rfl (cs := [.map (some r)]) rfl rfl (cell1 ((old_le0 _ w).cell m1)) rfl ?_
    repeat' (refine g_pv rfl rfl ?_)
    refine g_lookO (kf := KI) (k := (x : Int)) (old_le0 _ w _ _ m2) rfl rfl rfl rfl (kl_int (Try.sx.ok.at rfl)) m3 rfl ?_
    rw [show ((ml kv (x : Int)).getD (Value.int .i64 0)) = _ from m4 x rx]
    refine g_ldO rfl rfl (cs := [.map (some r)]) rfl rfl (cell1 ((old_le0 _ w).cell m1)) rfl ?_
    repeat' (refine g_pv rfl rfl ?_)
    refine g_lookO (kf := KI) (k := (y : Int)) (old_le0 _ w _ _ m2) rfl rfl rfl rfl (kl_int (Try.sx.ok.at rfl)) m3 rfl ?_
    rw [show ((ml kv (y : Int)).getD (Value.int .i64 0)) = _ from m4 y ry]
    repeat' (first | refine g_pv rfl rfl ?_ | refine g_nil ?_ | refine gq_then ?_)
    refine gc_condC rfl (fun hq => ?_) (fun hq => ?_)
    · have hq' : num x < num y := by have := of_decide_eq_true hq; omega
      have h0 : x ≠ 0 := fun h => by subst h; have := N.dom (Dm.zero ry); omega
      have hu := G.up x hx h0
      have hbu := N.bd _ (G.rch _ hu.1)
      have hlx := hlt x rx
      have hget : ds[x]? = some ((ou ds x : Nat) : Int) := by
        have h1 : ds[x]? = some (ds.getD x (-1)) := by simp [List.getD, List.getElem?_eq_getElem (show x < ds.length by omega)]
        rw [h1]; congr 1; unfold ou; unfold df at hx; omega
      repeat' (refine gc_region ?_)
      refine g_ldO rfl rfl (cs := [.slice od ds.length cap]) rfl rfl (cell1 ((old_le0 _ w).cell r1)) rfl ?_
      repeat' (refine g_pv rfl rfl ?_)
      refine g_at (l := ds) (f := fI) (u := ((ou ds x : Nat) : Int)) rfl rfl rfl rfl rfl (Int.natCast_nonneg x) (by omega) (r2.le (old_le0 _ w)) hget rfl rfl rfl rfl (fun _ => ?_)
      repeat' (first | refine g_pv rfl rfl ?_ | refine g_nil ?_ | refine gq_block ?_)
      exact gq_again (ou ds x, y) ⟨hu.1, hy, fun c h => hI c (.left hne hq' h)⟩ (by simp only; omega) ⟨rfl, rfl, rfl, rfl, trivial⟩ (fun w' H => H)
    · have hq' : ¬ num x < num y := by have := of_decide_eq_false hq; omega
      have hyx : num y < num x := by
        rcases Nat.lt_or_eq_of_le (Nat.le_of_not_lt hq') with h | h
        · exact h
        · exact absurd (N.inj x y rx ry h.symm) hne
      have h0 : y ≠ 0 := fun h => by subst h; have := N.dom (Dm.zero rx); omega
      have hu := G.up y hy h0
      have hbu := N.bd _ (G.rch _ hu.1)
      have hly := hlt y ry
      have hget : ds[y]? = some ((ou ds y : Nat) : Int) := by
        have h1 : ds[y]? = some (ds.getD y (-1)) := by simp [List.getD, List.getElem?_eq_getElem (show y < ds.length by omega)]
        rw [h1]; congr 1; unfold ou; unfold df at hy; omega
      repeat' (refine gc_region ?_)
      refine g_ldO rfl rfl (cs := [.slice od ds.length cap]) rfl rfl (cell1 ((old_le0 _ w).cell r1)) rfl ?_
      repeat' (refine g_pv rfl rfl ?_)
      refine g_at (l := ds) (f := fI) (u := ((ou ds y : Nat) : Int)) rfl rfl rfl rfl rfl (Int.natCast_nonneg y) (by omega) (r2.le (old_le0 _ w)) hget rfl rfl rfl rfl (fun _ => ?_)
      repeat' (first | refine g_pv rfl rfl ?_ | refine g_nil ?_ | refine gq_block ?_)
      exact gq_again (x, ou ds y) ⟨hx, hu.1, fun c h => hI c (.right hne hq' h)⟩ (by simp only; omega) ⟨rfl, rfl, rfl, rfl, trivial⟩ (fun w' H => H)
  · have he : x = y := by have := bne_eq_false_iff_eq.1 hc; omega
    subst he
    repeat' (first | refine g_pv rfl rfl ?_ | refine g_nil ?_ | refine gq_then ?_ | refine gc_seq ?_ | refine gc_region ?_ | refine gc_exit ?_ | refine gc_ret ?_ | refine gq_then_exit ?_ | refine gq_block_exit ?_)
    exact gq_ret1 (.inr rfl) rfl rfl rfl (fun w' H => ⟨x, hI x (.same x), rfl, H⟩)
end Go.Proofs.Ytpmkkmahimdjkaa

/- The search's order numbers the nodes; the ways into each node. -/
namespace Go.Proofs.Ytpmkkmahimdjkaa
set_option linter.unusedVariables false

def numP (post : List Int) (v : Nat) : Nat := post.idxOf (v : Int)
theorem idx_pre {pre suf : List Int} {v : Int} (h : v ∉ pre) : (pre ++ v :: suf).idxOf v = pre.length := by
  rw [List.idxOf_append, if_neg h]; simp
theorem POrder.num {es : Nat → List Int} {post : List Int} (P : POrder es post) : Num es (numP post) post.length where
  bd := fun v hv => List.idxOf_lt_length_of_mem ((P.mem _).2 ⟨v, rfl, hv⟩)
  inj := fun u v hu hv h => by
    have h1 := (P.mem (u : Int)).2 ⟨u, rfl, hu⟩
    have h2 := (P.mem (v : Int)).2 ⟨v, rfl, hv⟩
    have e1 := List.getElem_idxOf (List.idxOf_lt_length_of_mem h1)
    have e2 := List.getElem_idxOf (List.idxOf_lt_length_of_mem h2)
    unfold numP at h
    have : (u : Int) = v := by rw [← e1, ← e2]; congr 1
    omega
  par := fun v hv h0 => by
    have h1 := (P.mem (v : Int)).2 ⟨v, rfl, hv⟩
    obtain ⟨u, he, pre, suf, hp, hu⟩ := P.par _ h1 (by omega)
    have hum : (u : Int) ∈ post := by rw [hp]; simp [hu]
    obtain ⟨u', e, hu'⟩ := (P.mem _).1 hum
    have : u' = u := by omega
    subst this
    refine ⟨u', hu', he, ?_⟩
    have nd := P.nodup
    rw [hp, List.nodup_append] at nd
    obtain ⟨_, n2, n3⟩ := nd
    have hvp : (v : Int) ∉ pre := fun h => n3 _ h _ List.mem_cons_self rfl
    have hup : (u' : Int) ∉ pre := fun h => n3 _ h _ (List.mem_cons_of_mem _ hu) rfl
    have huv : (u' : Int) ≠ v := fun h => by rw [h] at hu; exact (List.nodup_cons.1 n2).1 hu
    unfold numP
    rw [hp, idx_pre hvp, List.idxOf_append, if_neg hup, List.idxOf_cons]
    have : ((v : Int) == (u' : Int)) = false := by simp; omega
    rw [this]; simp

theorem addR_mem (i : Nat) (p : Int) (v : Nat) : ∀ (ks : List Int) (fs : List (List Int)), v < fs.length → (∀ k ∈ ks, 0 ≤ k) → (p ∈ (addR fs i ks).getD v [] ↔ p ∈ fs.getD v [] ∨ (p = (i : Int) ∧ (v : Int) ∈ ks)) := by
  intro ks
  induction ks with
  | nil => intro fs _ _; simp [addR]
  | cons k ks ih =>
    intro fs hv hk
    have hk0 := hk k List.mem_cons_self
    show p ∈ (addR (addF fs k i) i ks).getD v [] ↔ _
    rw [ih (addF fs k i) (by rw [addF_length]; exact hv) (fun q hq => hk q (List.mem_cons_of_mem _ hq))]
    have e : p ∈ (addF fs k i).getD v [] ↔ p ∈ fs.getD v [] ∨ (p = (i : Int) ∧ (v : Int) = k) := by
      unfold addF
      by_cases hkv : k.toNat = v
      · subst hkv
        rw [show (fs.set k.toNat (fs.getD k.toNat [] ++ [(i : Int)])).getD k.toNat [] = fs.getD k.toNat [] ++ [(i : Int)] from by simp [List.getD, List.getElem?_set_self hv]]
        simp only [List.mem_append, List.mem_singleton]
        constructor
        · rintro (h | h)
          · exact .inl h
          · exact .inr ⟨h, by omega⟩
        · rintro (h | ⟨h, _⟩)
          · exact .inl h
          · exact .inr h
      · rw [show (fs.set k.toNat (fs.getD k.toNat [] ++ [(i : Int)])).getD v [] = fs.getD v [] from by simp [List.getD, List.getElem?_set_ne hkv]]
        constructor
        · exact .inl
        · rintro (h | ⟨_, h⟩)
          · exact h
          · omega
    rw [e]
    simp only [List.mem_cons]
    constructor
    · rintro ((h | ⟨h, h2⟩) | ⟨h, h2⟩)
      · exact .inl h
      · exact .inr ⟨h, .inl h2⟩
      · exact .inr ⟨h, .inr h2⟩
    · rintro (h | ⟨h, h2 | h2⟩)
      · exact .inl (.inl h)
      · exact .inl (.inr ⟨h, h2⟩)
      · exact .inr ⟨h, h2⟩
theorem froms_mem (code : List Ins) (p : Int) (v : Nat) (hv : v < code.length) : ∀ i, (p ∈ (fromsAt code i).getD v [] ↔ ∃ u : Nat, u < i ∧ p = u ∧ (v : Int) ∈ nxt code u) := by
  intro i
  induction i with
  | zero => simp [fromsAt, List.getD, hv]
  | succ i ih =>
    rw [fromsAt_succ, addR_mem i p v _ _ (by rw [fromsAt_length]; exact hv) (fun k hk => (nxt_in code i k hk).1), ih]
    constructor
    · rintro (⟨u, h1, h2, h3⟩ | ⟨h1, h2⟩)
      · exact ⟨u, by omega, h2, h3⟩
      · exact ⟨i, by omega, h1, h2⟩
    · rintro ⟨u, h1, h2, h3⟩
      by_cases h : u = i
      · subst h; exact .inr ⟨h2, h3⟩
      · exact .inl ⟨u, by omega, h2, h3⟩
def frOf (code : List Ins) (v : Nat) : List Int := (fromsAt code code.length).getD v []
theorem frOf_fr (code : List Ins) (hn : 0 < code.length) : Fr (nxt code) (frOf code) code.length := by
  have hlt : ∀ v, R0 (nxt code) v → v < code.length := fun v hv => hv.lt (fun k hk => by simp at hk; omega) (fun u _ => nxt_in code u)
  have hout : ∀ v, ¬ v < code.length → frOf code v = [] := fun v hv => by
    unfold frOf; simp [List.getD, List.getElem?_eq_none (by rw [fromsAt_length]; omega : (fromsAt code code.length).length ≤ v)]
  refine ⟨fun v p hp => ?_, fun v p hp _ => ?_, fun u v hu he => ?_, hlt⟩
  · by_cases hv : v < code.length
    · obtain ⟨u, _, h2, _⟩ := (froms_mem code p v hv _).1 hp; omega
    · rw [hout v hv] at hp; cases hp
  · by_cases hv : v < code.length
    · obtain ⟨u, _, h2, h3⟩ := (froms_mem code p v hv _).1 hp
      subst h2; simpa using h3
    · rw [hout v hv] at hp; cases hp
  · have hv := nxt_in code u _ he
    exact (froms_mem code u v (by omega) _).2 ⟨u, hlt u hu, rfl, he⟩

def vsOf (post : List Int) : List Nat := (post.reverse.map Int.toNat).filter (fun v => decide (v ≠ 0))
theorem POrder.ord {es : Nat → List Int} {post : List Int} (P : POrder es post) : Ord es (numP post) (vsOf post) := by
  constructor
  · refine List.Pairwise.filter _ (List.Pairwise.map _ (fun a b (h : a ∈ post ∧ b ∈ post ∧ post.idxOf b < post.idxOf a) => ?_) ?_)
    · obtain ⟨ha, hb, hlt⟩ := h
      obtain ⟨u, rfl, _⟩ := (P.mem a).1 ha
      obtain ⟨v, rfl, _⟩ := (P.mem b).1 hb
      exact hlt
    · rw [List.pairwise_reverse]
      rw [List.pairwise_iff_getElem]
      intro i j hi hj hij
      refine ⟨List.getElem_mem hj, List.getElem_mem hi, ?_⟩
      rw [P.nodup.idxOf_getElem, P.nodup.idxOf_getElem]; exact hij
  · intro v
    unfold vsOf
    simp only [List.mem_filter, List.mem_map, List.mem_reverse, decide_eq_true_eq]
    constructor
    · rintro ⟨⟨k, hk, rfl⟩, h0⟩
      obtain ⟨u, rfl, hu⟩ := (P.mem k).1 hk
      exact ⟨by simpa using hu, h0⟩
    · rintro ⟨hv, h0⟩
      exact ⟨⟨(v : Int), (P.mem _).2 ⟨v, rfl, hv⟩, by simp⟩, h0⟩
end Go.Proofs.Ytpmkkmahimdjkaa

/- Range over a function: rounds, marks. -/
namespace Go.Wk
set_option linter.unusedVariables false
set_option linter.unusedSimpArgs false

/-- The same, with other deferred calls. -/
abbrev wd (X : Cx) (ds : List Deferred) : Cx := { X with ds := ds }
def AgainD (X : Cx) {Y : Type} (post : Y → Prop) (D : Y → List Deferred) (L : Y → LT) (R : Y → RL) (μ : Y → Nat) (m : Nat) : Act → World → Prop := fun a w => ∃ y, post y ∧ μ y < m ∧ Ok (wd X (D y)) a (L y) ∧ Hp X w (R y)
section
variable {X : Cx} {Q : Post} {L : LT} {R : RL}
/-- A loop each round of which may leave marks. -/
theorem gc_loopD {c : Code} {Y : Type} (post : Y → Prop) (Df : Y → List Deferred) (Lf : Y → LT) (Rf : Y → RL) (μ : Y → Nat) (y0 : Y) (hp : post y0) (hD : X.ds = Df y0) (hL : subL L (Lf y0)) (hR : ∀ w, Hp X w R → Hp X w (Rf y0))
    (round : ∀ y, post y → GC (wd X (Df y)) c (Exit.then (AgainD X post Df Lf Rf μ (μ y)) Q) (Lf y) (Rf y)) : GC X (.loop c) Q L R := by
  intro a w ha hE
  refine wpIn_loop (fun a w => ∃ n, ∃ y, μ y = n ∧ post y ∧ Ok (wd X (Df y)) a (Lf y) ∧ Hp X w (Rf y)) (fun a w => leastOf (fun n => ∃ y, μ y = n ∧ post y ∧ Ok (wd X (Df y)) a (Lf y) ∧ Hp X w (Rf y)))
    ⟨μ y0, y0, rfl, hp, ⟨ha.size, by rw [ha.defers, hD], subL.kn ha.kn hL⟩, hR w hE⟩ ?_
  intro a w hI
  obtain ⟨⟨y, hy, hpy, hok, hh⟩, _⟩ := leastOf_spec hI
  refine wpIn_mono (round y hpy a w hok hh) ?_
  intro e a' w' hq
  cases e with
  | normal =>
    obtain ⟨y', hp', hlt, hok', hh'⟩ := hq
    refine ⟨⟨μ y', y', rfl, hp', hok', hh'⟩, ?_⟩
    have hI' : ∃ n, ∃ y, μ y = n ∧ post y ∧ Ok (wd X (Df y)) a' (Lf y) ∧ Hp X w' (Rf y) := ⟨μ y', y', rfl, hp', hok', hh'⟩
    refine Nat.lt_of_le_of_lt ((leastOf_spec hI').2 (μ y') ⟨y', rfl, hp', hok', hh'⟩) ?_
    rw [← hy]; exact hlt
  | exit id => exact hq
  | goto l => exact hq
  | ret => exact hq
  | panic ch => exact hq
  | outgrown => exact hq
theorem gq_againD {ds : List Deferred} {Y : Type} {post : Y → Prop} {Df : Y → List Deferred} {Lf : Y → LT} {Rf : Y → RL} {μ : Y → Nat} {m : Nat} (y : Y) (hp : post y) (hμ : μ y < m) (hD : ds = Df y) (hL : subL L (Lf y)) (hR : ∀ w, Hp X w R → Hp X w (Rf y)) :
    GQ (wd X ds) (Exit.then (AgainD X post Df Lf Rf μ m) Q) .normal L R := fun _ w ha hE => ⟨y, hp, hμ, ⟨ha.size, by rw [ha.defers]; exact hD, subL.kn ha.kn hL⟩, hR w hE⟩

/-- A round of the loop l, as a call: of own memory A. -/
def Yp {Y : Type} (P : Program) (l : Nat) (args : List Value) (w : World) (A : HL) (v : Y → Value) (A' : Y → RL) (post : Y → Prop) : Prop :=
  ∃ f tmps assign body, (Instr.yield l args.toArray).run P w = .ok (.round l f tmps assign body) w ∧
    RoundIn (Fr none) 0 P l f tmps assign body w (fun e w' => ∃ y, post y ∧ e = .returned (v y) ∧ Eff w A w' (A' y).flatten)
/-- yield(..): a round, handed the part of R that is ahead. -/
theorem g_yield {ops : Array Oper} {rest : List Oper} {d : Nat} {ty : TypeId} {p : String} {af : Array Edge} {l : Nat} {f : Operand} {xs : Array Operand} {ats : Array TypeId} {vs : List Value} {Y : Type} {vf : Y → Value} {post : Y → Prop} {A' : Y → RL} {A : HL} {F : RL}
    (hro : X.ro = none) (hn : X.n = 0) (hR : R = A :: F) (hf : ev L f = some (.func (.yield l) #[] #[])) (hxs : evs L xs.toList = some vs)
    (hc : ∀ w, Hp X w (A :: F) → Yp X.s.P l vs w A vf A' post)
    (hN : Nat.blt d X.N = true) (k : ∀ y, post y → G X ops Q rest ((d, vf y) :: L) (A' y ++ F)) :
    G X ops Q (⟨some d, .call ⟨.value f, xs, ats⟩, ty, p, af, none⟩ :: rest) L R := by
  intro a w ha hE
  refine wpListIn_plain rfl (fun K hK => ?_)
  refine ⟨fun _ _ => trivial, ?_⟩
  rw [Oper.semAt_eq _ _ _ (by intro c h; cases h)]
  have hmap : xs.map a.eval = vs.toArray := by
    have := evs_map (fun x u h => ha.kn.ev h) hxs
    apply Array.ext'; simpa using this
  have hE' : Hp X w (A :: F) := hR ▸ hE
  obtain ⟨g, tmps, asg, body, hy, hround⟩ := hc w hE'
  have hrun : (execOp a.eval ⟨some d, .call ⟨.value f, xs, ats⟩, ty, p, af, none⟩).run X.s.P w = .ok (.round l g tmps asg body) w := by
    simp only [execOp, resolve, hmap, ha.kn.ev hf, Deferred.ofValue, Sem.run_bind, run_pure', Result.andThen_ok, invoke]
    simpa using hy
  rw [hrun, Oper.uponIn_round]
  refine ⟨fun h => by simp [Fence.wide] at h, ?_⟩
  rw [hro, hn]
  refine RoundIn.mono hround ?_
  rintro e w' ⟨y, hp, rfl, E⟩
  refine hK _ _ (k y hp _ _ (ha.put hN _) ?_)
  unfold Hp at hE' ⊢
  rw [List.flatten_cons] at hE'
  have := Eff.seq hE' E
  rw [List.flatten_append]; exact this
/-- The record of a loop. -/
abbrev rec (fn : FuncId) (tm : Array Value) (ps : Array Tmp) (assign body : Code) (D : Nat) (st : LoopState) (pe : Option Code) : Obj := .loop { state := st, pending := pe, fn, tmps := tm, params := ps, assign, body, defers := D }

/-- A round, out of the walk of its assignment and its body. -/
theorem round_sp {s : Sx} {Y : Type} {l D : Nat} {fn : FuncId} {tm : Array Value} {ps : Array Tmp} {asg body : Code} {N : Nat} {args : List Value} {w : World} {A B : HL} {A' : Y → HL} {post : Y → Prop} {L1 : LT}
    (hE : Eff w ((l, rec fn tm ps asg body D .ready none) :: A) w ((l, rec fn tm ps asg body D .ready none) :: A)) (hsz : args.length = ps.size) (htm : tm.size = N)
    (hL : Kn { tmps := (ps.zip args.toArray).foldl (fun t (q : Tmp × Value) => t.setIfInBounds q.1 q.2) tm, defers := [] } L1)
    (h : GC ⟨s, some l, 0, N, [], w, (l, rec fn tm ps asg body D .ready none) :: A⟩ asg
      (Exit.then (fun a1 w1 => ∃ w2, (Instr.beginRound l).run s.P w1 = .ok () w2 ∧ body.wpIn (Fr (some l)) 0 s.P (roundPost s.P l (fun e w' => ∃ y, post y ∧ e = .returned (.bool true) ∧ Eff w ((l, rec fn tm ps asg body D .ready none) :: A) w' ((l, rec fn tm ps asg body D .ready none) :: A' y))) a1 w2) (fun _ _ _ => False))
      L1 [[(l, rec fn tm ps asg body D .ready none)], A]) :
    Yp s.P l args w ((l, rec fn tm ps asg body D .ready none) :: A) (fun _ : Y => .bool true) (fun y => [(l, rec fn tm ps asg body D .ready none) :: A' y]) post := by
  have hl := hE.holds l _ List.mem_cons_self
  have hg := run_getObj (P := s.P) hl (by intro c e f h; cases h)
  refine ⟨fn, (ps.zip args.toArray).foldl (fun t (q : Tmp × Value) => t.setIfInBounds q.1 q.2) tm, asg, body, ?_, ?_⟩
  · simp only [Instr.yield, Instr.getLoop, Sem.run_bind, hg, Result.andThen_ok, run_pure']
    simp [hsz]
  · have hz : ∀ (zs : List (Tmp × Value)) (t : Array Value), (zs.foldl (fun t (q : Tmp × Value) => t.setIfInBounds q.1 q.2) t).size = t.size := fun zs => by
      induction zs with
      | nil => intro t; rfl
      | cons q zs ih => intro t; rw [List.foldl_cons, ih]; simp
    have hsize : ((ps.zip args.toArray).foldl (fun t (q : Tmp × Value) => t.setIfInBounds q.1 q.2) tm).size = N := by
      rw [← htm, ← Array.foldl_toList]; exact hz _ _
    have h1 := h _ w ⟨hsize, rfl, hL⟩ (by simpa [Hp] using hE)
    exact RoundIn.mono (roundIn_of_wpIn (F := Fr none) (n := 0) (by simp [Fence.wide]) h1) (fun e w' ⟨y, hp, he, E⟩ => ⟨y, hp, he, by simpa using E⟩)
abbrev mark (D : Nat) : Deferred := { target := .collected D, args := #[] }
abbrev mks (Ds : List Nat) : List Deferred := Ds.map mark
abbrev mkb (Ds : List Nat) : HL := Ds.map fun D => (D, .deferred (some []))
/-- for .. := range g { .. }. -/
theorem gc_range {g : Operand} {ps : Array Tmp} {asg body : Code} {gf : FuncId} {cp : Array Value} {Y : Type} {post : Y → Prop} {A' : Y → HL} {A : HL} {F : RL} (hro : X.ro = none) (hn : X.n = 0) (hR : R = A :: F)
    (hg : ev L g = some (.func (.func gf) #[] cp)) (hcl : Cl X.s.P gf)
    (hit : ∀ l D fn tm w, tm.size = X.N → Kn { tmps := tm, defers := [] } L → Hp X w (((l, rec fn tm ps asg body D .ready none) :: A) :: [(D, .deferred (some []))] :: F) →
      Sp X.s.P gf (.func (.yield l) #[] #[] :: cp.toList) w ((l, rec fn tm ps asg body D .ready none) :: A) (fun _ : Y => .tuple #[]) (fun y => [(l, rec fn tm ps asg body D .ready none) :: A' y]) post)
    (k : ∀ D y, post y → GQ (wd X (mark D :: X.ds)) Q .normal L (A' y :: [(D, .deferred (some []))] :: F)) : GC X (.rangeFunc g ps asg body) Q L R := by
  intro a w ha hE
  rw [hR] at hE
  refine wpIn_rangeFunc (fun fn hfn => ?_)
  let D := w.heap.size
  let w1 := w.alloc (.deferred (some []))
  let l := w1.heap.size
  let r := rec fn a.tmps ps asg body D .ready none
  let w2 := w1.alloc r
  have hE1 : Hp X w1 ([(D, .deferred (some []))] :: A :: F) := by
    have := Eff.seq0 hE (Eff.alloc w (.deferred (some [])))
    unfold Hp; simpa using this
  have hE2 : Hp X w2 ([(l, r)] :: [(D, .deferred (some []))] :: A :: F) := by
    have := Eff.seq0 hE1 (Eff.alloc w1 r)
    unfold Hp; simpa using this
  have hE3 : Hp X w2 (((l, r) :: A) :: [(D, .deferred (some []))] :: F) := hp_cnt [] hE2 (fun x => by
    simp only [List.flatten_cons, List.flatten_nil, List.count_append, List.count_cons, List.count_nil, List.append_nil]; omega)
  have hkn : Kn { tmps := a.tmps, defers := [] } L := fun i v h => ha.kn i v h
  have hsp := hit l D fn a.tmps w2 ha.size hkn hE3
  refine ⟨l, [mark D], w2, ⟨.fn (.func gf) cp, #[.func (.yield l) #[] #[]]⟩, w2, gf, (.func (.yield l) #[] #[] :: cp.toList).toArray, w2, ?_, ?_, ?_, ?_, ?_, ?_⟩
  · show (Instr.enterLoop fn a.tmps ps asg body X.ro).run X.s.P w = _
    rw [hro]
    simp only [Instr.enterLoop, Sem.run_bind, run_newObj_alloc, Result.andThen_ok, run_pure']
    rfl
  · simp only [resolve, rangeCall, ha.kn.ev hg, Deferred.ofValue, run_pure']
    simp [Act.eval]
  · intro f' _; trivial
  · show (callFunc gf (#[Value.func (.yield l) #[] #[]] ++ cp)).run X.s.P w2 = _
    have e : (#[Value.func (.yield l) #[] #[]] ++ cp) = (Value.func (.yield l) #[] #[] :: cp.toList).toArray := by apply Array.ext'; simp
    rw [e]; exact hcl _ _
  · intro h; simp [Fence.wide] at h
  · have h1 : CallsIn Fence.wide (X.n - 1) X.s.P gf (.func (.yield l) #[] #[] :: cp.toList).toArray w2 (fun e w' => ∃ y, post y ∧ e = .returned (.tuple #[]) ∧ Eff w2 ((l, r) :: A) w' [(l, r) :: A' y].flatten) := callsIn_wide.2 hsp
    have h2 : CallsIn (Fr X.ro) (X.n - 1) X.s.P gf (.func (.yield l) #[] #[] :: cp.toList).toArray w2 (fun e w' => ∃ y, post y ∧ e = .returned (.tuple #[]) ∧ Eff w2 ((l, r) :: A) w' [(l, r) :: A' y].flatten) := by rw [hro]; exact h1
    refine CallsIn.mono h2 ?_
    rintro e w3 ⟨y, hp, rfl, E⟩
    have hE4 : Hp X w3 (((l, r) :: A' y) :: [(D, .deferred (some []))] :: F) := by
      unfold Hp at hE3 ⊢
      rw [List.flatten_cons] at hE3
      have := Eff.seq hE3 E
      simpa using this
    have hl : w3.heap[l]? = some (rec fn a.tmps ps asg body D .ready none) := hE4.holds l r (by simp)
    have hE5 := Eff.setObj (o' := rec fn a.tmps ps asg body D .exhausted none) hl
    have hE6 : Hp X w3 ([(l, r)] :: A' y :: [(D, .deferred (some []))] :: F) := hp_cnt [] hE4 (fun x => by
      simp only [List.flatten_cons, List.flatten_nil, List.count_append, List.count_cons, List.count_nil, List.append_nil]; omega)
    have hE7 : Hp X { w3 with heap := w3.heap.setIfInBounds l (rec fn a.tmps ps asg body D .exhausted none) } (A' y :: [(D, .deferred (some []))] :: F) := by
      unfold Hp at hE6
      rw [List.flatten_cons] at hE6
      exact hp_tail (A := [(l, rec fn a.tmps ps asg body D .exhausted none)]) (by unfold Hp; rw [List.flatten_cons]; exact Eff.seq hE6 hE5)
    refine ⟨none, _, ?_, k D y hp { a with defers := [mark D] ++ a.defers } _ ⟨ha.size, by show [mark D] ++ a.defers = _; rw [ha.defers]; rfl, ha.kn⟩ hE7⟩
    have hg' := run_getObj (P := X.s.P) hl (by intro c e f h; cases h)
    have hs' := run_setObj (P := X.s.P) hl (by intro c e f h; cases h) (rec fn a.tmps ps asg body D .exhausted none)
    simp only [Instr.endLoop, Instr.getLoop, Sem.run_bind, hg', Result.andThen_ok, run_pure']
    simp only [beq_iff_eq, reduceCtorEq, if_false, Sem.run_bind, run_pure', Result.andThen_ok, hs']
/-- The beginning of a round. -/
theorem gq_begin {l D : Nat} {fn : FuncId} {tm : Array Value} {ps : Array Tmp} {asg body : Code} {Q' : Post} {F : RL} (hR : R = [(l, rec fn tm ps asg body D .ready none)] :: F)
    (h : GC X body Q' L ([(l, rec fn tm ps asg body D .busy none)] :: F)) :
    GQ X (Exit.then (fun a1 w1 => ∃ w2, (Instr.beginRound l).run X.s.P w1 = .ok () w2 ∧ body.wpIn (Fr X.ro) X.n X.s.P Q' a1 w2) Q) .normal L R := by
  intro a w ha hE
  rw [hR] at hE
  have hl : w.heap[l]? = some (rec fn tm ps asg body D .ready none) := hE.holds l _ (by simp)
  have hg' := run_getObj (P := X.s.P) hl (by intro c e f h; cases h)
  have hs' := run_setObj (P := X.s.P) hl (by intro c e f h; cases h) (rec fn tm ps asg body D .busy none)
  refine ⟨{ w with heap := w.heap.setIfInBounds l (rec fn tm ps asg body D .busy none) }, ?_, h a _ ha ?_⟩
  · simp only [Instr.beginRound, Instr.getLoop, Sem.run_bind, hg', Result.andThen_ok, run_pure', hs']
  · unfold Hp at hE ⊢
    rw [List.flatten_cons] at hE ⊢
    exact Eff.seq hE (Eff.setObj hl)
/-- The end of a round. -/
theorem gq_endRound {l D : Nat} {fn : FuncId} {tm : Array Value} {ps : Array Tmp} {asg body : Code} {F : RL} {Y : Type} {post : Y → Prop} {A' : Y → HL} (hR : R = [(l, rec fn tm ps asg body D .busy none)] :: F) (y : Y) (hp : post y)
    (hF : ∀ w, Hp X w ([(l, rec fn tm ps asg body D .ready none)] :: F) → Hp X w [(l, rec fn tm ps asg body D .ready none) :: A' y]) :
    GQ X (roundPost X.s.P l (fun e w' => ∃ y, post y ∧ e = .returned (.bool true) ∧ Eff X.w0 X.A0 w' ((l, rec fn tm ps asg body D .ready none) :: A' y))) .normal L R := by
  intro a w ha hE
  rw [hR] at hE
  have hl : w.heap[l]? = some (rec fn tm ps asg body D .busy none) := hE.holds l _ (by simp)
  have hg' := run_getObj (P := X.s.P) hl (by intro c e f h; cases h)
  have hs' := run_setObj (P := X.s.P) hl (by intro c e f h; cases h) (rec fn tm ps asg body D .ready none)
  refine ⟨.bool true, { w with heap := w.heap.setIfInBounds l (rec fn tm ps asg body D .ready none) }, ?_, y, hp, rfl, ?_⟩
  · simp only [Instr.endRound, Instr.getLoop, Sem.run_bind, hg', Result.andThen_ok, run_pure', Option.isNone_none, if_true, hs']
  · have : Hp X { w with heap := w.heap.setIfInBounds l (rec fn tm ps asg body D .ready none) } ([(l, rec fn tm ps asg body D .ready none)] :: F) := by
      unfold Hp at hE ⊢
      rw [List.flatten_cons] at hE ⊢
      exact Eff.seq hE (Eff.setObj hl)
    simpa [Hp] using hF _ this
/-- All marks are taken in. -/
theorem leaves_marks {s : Sx} {fn : Func} {tm : Array Value} {Rp : Ending → World → Prop} {w0 : World} {A0 : HL} (B : HL) : ∀ (Ds : List Nat) (w : World), Eff w0 A0 w (mkb Ds ++ B) →
    (∀ w', Eff w0 A0 w' B → ∃ v, (results fn tm).run s.P w' = .ok v w' ∧ Rp (.returned v) w') → LeavesInM Fence.wide 0 s.P fn tm Rp (mks Ds) .returning w
  | [], w, E, h => h w E
  | D :: Ds, w, E, h => by
    have hl : w.heap[D]? = some (.deferred (some [])) := E.holds D _ (by simp)
    have hg' := run_getObj (P := s.P) hl (by intro c e f h; cases h)
    have hs' := run_setObj (P := s.P) hl (by intro c e f h; cases h) (.deferred none)
    refine ⟨(by intro h; cases h), .inl ⟨D, { w with heap := w.heap.setIfInBounds D (.deferred none) }, rfl, ?_, leaves_marks B Ds _ ?_ h⟩⟩
    · simp only [Instr.takeDeferred, Sem.run_bind, hg', Result.andThen_ok, run_pure', hs']
    · have := Eff.seq (X := [(D, .deferred (some []))]) (F := mkb Ds ++ B) (by simpa using E) (Eff.setObj (o' := .deferred none) hl)
      exact Eff.sel this [(D, .deferred none)] List.perm_append_comm
theorem enterM {s : Sx} {f : FuncId} {fn : Func} {c : Code} {args : List Value} {w : World} {Rp : Ending → World → Prop} (A0 : RL) {A : HL} {N : Nat} (hA : A0.flatten = A)
    (hf : s.P.funcs[f]? = some fn) (hb : fn.body = some c) (hN : fn.ntmps = N) (hlen : Nat.ble args.length N = true)
    (hE : Eff w A w A)
    (h : GC ⟨s, none, 0, N, [], w, A⟩ c (bodyPostM Fence.wide 0 s.P fn Rp) (zipL 0 args) A0) : Calls s.P f args.toArray w Rp := by
  subst hA
  have hle := Nat.le_of_ble_eq_true hlen
  refine callsIn_wide.1 (callsIn_of_wp_marks (F := Fence.wide) (n := 0) hf hb trivial ?_)
  refine h _ w ⟨?_, rfl, ?_⟩ hE
  · simp [hN]; omega
  · intro i v hi
    obtain ⟨j, rfl, hj⟩ := lk_zipL args 0 i v hi
    have hlt : j < args.length := (List.getElem?_eq_some_iff.1 hj).1
    simp only [Nat.zero_add, Array.getD_eq_getD_getElem?]
    rw [Array.getElem?_append_left (by simpa using hlt)]
    simp [hj]
theorem gq_ret1M {e : Exit} {fn : Func} {Rp : Ending → World → Prop} (he : e = .normal ∨ e = .ret) (Ds : List Nat) (hds : X.ds = mks Ds) {F : RL} (hR : ∀ w, Hp X w R → Hp X w (mkb Ds :: F)) {t : Tmp} (hfn : fn.results = #[.tmp t]) {v : Value} (hv : lk L t = some v)
    (k : ∀ w, Hp X w F → Rp (.returned v) w) : GQ X (bodyPostM Fence.wide 0 X.s.P fn Rp) e L R := by
  intro a w ha hE
  have key : LeavesInM Fence.wide 0 X.s.P fn a.tmps Rp a.defers .returning w := by
    rw [ha.defers, hds]
    exact leaves_marks F.flatten Ds w (by have := hR w hE; unfold Hp at this; simpa using this) (fun w' E => ⟨v, by rw [results_tmp hfn, ha.kn _ _ hv], k w' E⟩)
  rcases he with rfl | rfl <;> exact key
end
end Go.Wk

/- The library's Backward at []int: what is ranged over. -/
namespace Go.Proofs.Ytpmkkmahimdjkaa
open Go.Wk
set_option linter.unusedVariables false
set_option linter.unusedSimpArgs false
attribute [local irreducible] G GC GQ GA GS Exit.then Exit.inBlock

theorem backward1_sp {Y : Type} (l : Nat) (bx : Nat) (ad : Option Addr) (cap : Nat) (xs : List Int) (St : Nat → Y → Prop) (Am : Y → HL) (y0 : Y) (w : World) (hl : xs.length < 4611686018427387904) (hE0 : Eff w (Am y0) w (Am y0)) (hb : cellAt (exc w (Am y0)) bx 0 = some (.slice ad xs.length cap)) (hr : Rd (exc w (Am y0)) fI 1 ad xs) (h0 : St 0 y0)
    (hround : ∀ (k : Nat) (x : Int) (y : Y) (w' : World), k < xs.length → xs[xs.length - 1 - k]? = some x → St k y → Eff w (Am y0) w' (Am y) → Yp Try.prog l [.int .i64 ((xs.length - 1 - k : Nat) : Int), .int .i64 x] w' (Am y) (fun _ : Y => .bool true) (fun y' => [Am y']) (fun y' => St (k + 1) y')) :
    Sp Try.prog 62 [.func (.yield l) #[] #[], .pointer (some ⟨bx, 0, none⟩)] w (Am y0) (fun _ : Y => .tuple #[]) (fun y => [Am y]) (fun y => St xs.length y) := by
  refine enterA (s := Try.sx) [Am y0] (by simp) Try.func62 rfl rfl rfl hE0 ?_
  repeat' (first | refine gc_seq ?_ | refine gc_region ?_)
  refine g_ldO rfl rfl (cs := [.slice ad xs.length cap]) rfl rfl (cell1 hb) rfl ?_
  repeat' (first | refine g_pv rfl rfl ?_ | refine g_nil ?_ | refine gq_then ?_ | refine gc_block ?_)
  refine gc_loop (Y := Nat × Y) (fun y => y.1 ≤ xs.length ∧ St y.1 y.2) (fun y => [(0, .func (.yield l) #[] #[]), (1, .pointer (some ⟨bx, 0, none⟩)), (3, .int .i64 ((xs.length : Int) - 1 - y.1))]) (fun y => [Am y.2])
    (fun y => xs.length - y.1) (0, y0) ⟨Nat.zero_le _, h0⟩ ⟨rfl, rfl, ?_, trivial⟩ (fun w' H => H) ?_
  · exact congrArg (fun z => some (Value.int .i64 z)) (by rw [IntKind.wrap_i64]; simp; omega)
  rintro ⟨k, y⟩ ⟨hk, hst⟩
  try dsimp only at hk hst ⊢
  repeat' (first | refine g_pv rfl rfl ?_ | refine g_nil ?_ | refine gq_then ?_ | refine gc_seq ?_ | refine gc_region ?_)
  refine gc_condC rfl (fun hc => ?_) (fun hc => ?_)
  · have hlt : k < xs.length := by have := of_decide_eq_true hc; omega
    have hget : xs[xs.length - 1 - k]? = some xs[xs.length - 1 - k] := List.getElem?_eq_getElem (by omega)
    have e3 : ((xs.length : Int) - 1 - k) = ((xs.length - 1 - k : Nat) : Int) := by omega
    have hj : ((xs.length - 1 - k : Nat) : Int) < xs.length := by omega
    generalize xs[xs.length - 1 - k] = x at hget
    rw [e3]
    repeat' (first | refine g_pv rfl rfl ?_ | refine gq_then ?_ | refine gc_seq ?_ | refine gc_region ?_ | refine gc_block ?_ | refine gc_skip ?_)
    refine g_ldO rfl rfl (cs := [.slice ad xs.length cap]) rfl rfl (cell1 hb) rfl ?_
    repeat' (refine g_pv rfl rfl ?_)
    refine g_at (l := xs) (f := fI) (u := x) rfl rfl rfl rfl rfl (Int.natCast_nonneg _) hj hr (by rw [Int.toNat_natCast]; exact hget) rfl rfl rfl rfl (fun _ => ?_)
    refine g_yield rfl rfl rfl rfl rfl (fun w' hE => hround k x y w' hlt hget hst (by simpa [Hp] using hE)) rfl (fun y' hy' => ?_)
    repeat' (first | refine g_pv rfl rfl ?_ | refine g_nil ?_ | refine gq_then ?_ | refine gc_region ?_ | refine gc_cond_f rfl ?_ | refine gc_skip ?_ | refine gq_block ?_)
    refine gq_again (k + 1, y') ⟨hlt, hy'⟩ (by simp only; omega) ⟨rfl, rfl, ?_, trivial⟩ (fun w' H => H)
    exact congrArg (fun z => some (Value.int .i64 z)) (by rw [IntKind.wrap_i64]; omega)
  · have hge : k = xs.length := by have := of_decide_eq_false hc; omega
    subst hge
    repeat' (first | refine gc_exit ?_ | refine gq_then_exit ?_ | refine gq_block_exit ?_)
    exact gq_ret0 (.inl rfl) rfl rfl (fun w' H => ⟨y, hst, rfl, H⟩)
end Go.Proofs.Ytpmkkmahimdjkaa

/- The nearest dominators: what a pass and the whole iteration know (plain). -/
namespace Go.Proofs.Ytpmkkmahimdjkaa
set_option linter.unusedVariables false

theorem Pass.snoc {num : Nat → Nat} {fr : Nat → List Int} {s s' : List Int} {vs : List Nat} (h : Pass num fr s vs s') {v : Nat} {r : Int} (hb : Best num s' (-1) (fr v) r) : Pass num fr s (vs ++ [v]) (s'.set v r) := by
  induction h with
  | nil s => exact .cons hb (.nil _)
  | cons h1 _ ih => exact .cons h1 (ih hb)
/-- The first k of the search's order from its end. -/
def pk (post : List Int) (k : Nat) : List Nat := ((post.reverse.take k).map Int.toNat).filter (fun v => decide (v ≠ 0))
theorem pk_zero (post : List Int) : pk post 0 = [] := rfl
theorem pk_all (post : List Int) : pk post post.length = vsOf post := by
  unfold pk vsOf; rw [List.take_of_length_le (by simp)]
theorem pk_succ (post : List Int) (k : Nat) (x : Int) (hx : post.reverse[k]? = some x) : pk post (k + 1) = pk post k ++ (if x.toNat = 0 then [] else [x.toNat]) := by
  unfold pk
  rw [List.take_add_one, hx]
  simp only [Option.toList_some, List.map_append, List.map_cons, List.map_nil, List.filter_append, List.filter_cons, List.filter_nil]
  by_cases h : x.toNat = 0 <;> simp [h]
theorem pk_pre (post : List Int) (k : Nat) : ∃ r, vsOf post = pk post k ++ r := by
  refine ⟨((post.reverse.drop k).map Int.toNat).filter (fun v => decide (v ≠ 0)), ?_⟩
  unfold pk vsOf
  rw [← List.filter_append, ← List.map_append, List.take_append_drop]

/-- A part of a pass. -/
structure PRun (num : Nat → Nat) (fr : Nat → List Int) (post : List Int) (ds0 : List Int) (k : Nat) (ds : List Int) (fl : Bool) : Prop where
  pass : Pass num fr ds0 (pk post k) ds
  no : fl = false → ds = ds0
  yes : fl = true → ∃ v ∈ pk post k, ds.getD v (-1) ≠ ds0.getD v (-1)
theorem PRun.start {num : Nat → Nat} {fr : Nat → List Int} {post ds0 : List Int} : PRun num fr post ds0 0 ds0 false := ⟨.nil _, fun _ => rfl, fun h => by cases h⟩
theorem PRun.zero {num : Nat → Nat} {fr : Nat → List Int} {post ds0 ds : List Int} {k : Nat} {fl : Bool} (h : PRun num fr post ds0 k ds fl) (hx : post.reverse[k]? = some 0) : PRun num fr post ds0 (k + 1) ds fl := by
  have e : pk post (k + 1) = pk post k := by rw [pk_succ post k 0 hx]; simp
  exact ⟨by rw [e]; exact h.pass, h.no, fun hf => by rw [e]; exact h.yes hf⟩
theorem PRun.stay {num : Nat → Nat} {fr : Nat → List Int} {post ds0 ds : List Int} {k v : Nat} {fl : Bool} (h : PRun num fr post ds0 k ds fl) (hx : post.reverse[k]? = some (v : Int)) (hv : v ≠ 0) (hb : Best num ds (-1) (fr v) (ds.getD v (-1))) (hl : v < ds.length) : PRun num fr post ds0 (k + 1) ds fl := by
  have e : pk post (k + 1) = pk post k ++ [v] := by rw [pk_succ post k v hx]; simp [hv]
  have es : ds.set v (ds.getD v (-1)) = ds := by
    apply List.ext_getElem?; intro i
    by_cases hi : v = i
    · subst hi; rw [List.getElem?_set_self hl, List.getElem?_eq_getElem hl]; simp [List.getD, List.getElem?_eq_getElem hl]
    · rw [List.getElem?_set_ne hi]
  refine ⟨?_, h.no, fun hf => ?_⟩
  · have := h.pass.snoc hb
    rw [es] at this; rw [e]; exact this
  · obtain ⟨u, hu, hne⟩ := h.yes hf
    exact ⟨u, by rw [e]; exact List.mem_append_left _ hu, hne⟩
theorem PRun.turn {es : Nat → List Int} {num : Nat → Nat} {fr : Nat → List Int} {post ds0 ds : List Int} {k v : Nat} {fl : Bool} {r : Int} (O : Ord es num (vsOf post)) (h : PRun num fr post ds0 k ds fl) (hx : post.reverse[k]? = some (v : Int)) (hv : v ≠ 0) (hb : Best num ds (-1) (fr v) r) (hl : v < ds.length)
    (hne : r ≠ ds.getD v (-1)) : PRun num fr post ds0 (k + 1) (ds.set v r) true := by
  have e : pk post (k + 1) = pk post k ++ [v] := by rw [pk_succ post k v hx]; simp [hv]
  have hnv : v ∉ pk post k := fun hm => by
    obtain ⟨q, hq⟩ := pk_pre post (k + 1)
    have := O.dec
    rw [hq, e, List.append_assoc, List.pairwise_append] at this
    have := this.2.2 v hm v (by simp)
    omega
  refine ⟨by rw [e]; exact h.pass.snoc hb, fun h => (by cases h), fun _ => ⟨v, by rw [e]; simp, ?_⟩⟩
  rw [getD_setI ds v v r hl, if_pos rfl, ← h.pass.out hnv]; exact hne

/-- What the iteration knows between passes. -/
structure IOk (es : Nat → List Int) (num : Nat → Nat) (fr : Nat → List Int) (n : Nat) (ds : List Int) (again fst : Bool) : Prop where
  len : ds.length = n
  out : ∀ u, ¬ R0 es u → ds.getD u (-1) = -1
  good : Good es num ds
  ini : fst = true → again = true ∧ ∀ u, df ds u → u = 0
  hist : fst = false → Hist es num fr ds ∧ (again = false → One es num fr ds ds)
def imu (num : Nat → Nat) (M : Nat) (vs : List Nat) (ds : List Int) (again fst : Bool) : Nat := if again then (if fst then 2 + M * vs.length else 1 + wgt num M vs ds) else 0
theorem wgt_bd (num : Nat → Nat) (M : Nat) (vs : List Nat) (ds : List Int) : wgt num M vs ds ≤ M * vs.length := by
  induction vs with
  | nil => simp [wgt]
  | cons v vs ih =>
    unfold wgt at ih ⊢
    simp only [List.map_cons, List.sum_cons, List.length_cons, Nat.mul_add, Nat.mul_one]
    omega
theorem PRun.good {es : Nat → List Int} {num : Nat → Nat} {M n : Nat} {fr : Nat → List Int} {post ds0 ds : List Int} {k : Nat} {fl : Bool} (N : Num es num M) (F : Fr es fr n) (O : Ord es num (vsOf post)) (h : PRun num fr post ds0 k ds fl) (G : Good es num ds0) (hl : ds0.length = n) :
    Good es num ds ∧ ds.length = n := by
  refine ⟨?_, by rw [h.pass.length]; exact hl⟩
  obtain ⟨q, hq⟩ := pk_pre post k
  have hd := O.dec
  rw [hq, List.pairwise_append] at hd
  refine (h.pass.good N F G hl hd.1 (fun v hv => (O.mem v).1 (by rw [hq]; exact List.mem_append_left _ hv)) (fun u hu hnu => ?_)).1
  by_cases h0 : u = 0
  · subst h0; left; unfold df; rw [G.zero]; exact Int.le_refl _
  · right
    have hm := (O.mem u).2 ⟨hu, h0⟩
    rw [hq] at hm
    rcases List.mem_append.1 hm with hm | hm
    · exact absurd hm hnu
    · exact fun v hv => hd.2.2 v hv u hm
theorem IOk.next {es : Nat → List Int} {num : Nat → Nat} {M n : Nat} {fr : Nat → List Int} {post ds ds' : List Int} {fl fst : Bool} (N : Num es num M) (F : Fr es fr n) (O : Ord es num (vsOf post)) (I : IOk es num fr n ds true fst) (h : PRun num fr post ds post.length ds' fl) :
    IOk es num fr n ds' fl false ∧ imu num M (vsOf post) ds' fl false < imu num M (vsOf post) ds true fst := by
  have hp := h.pass
  rw [pk_all] at hp
  have hH : Hist es num fr ds' := by
    cases fst with
    | true => exact Hist.first N F O I.good I.len (I.ini rfl).2 hp
    | false => exact ((I.hist rfl).1.next N F O I.len hp).1
  refine ⟨⟨by rw [hp.length]; exact I.len, fun u hu => ?_, hH.good, fun h => (by cases h), fun _ => ⟨hH, fun hf => ?_⟩⟩, ?_⟩
  · rw [hp.out (fun hm => hu ((O.mem u).1 hm).1)]; exact I.out u hu
  · have e := h.no hf
    subst e
    exact (hp.ones N F O I.good I.len).2.2
  · cases fl with
    | false => simp only [imu]; cases fst <;> simp <;> omega
    | true =>
      obtain ⟨v, hv, hne⟩ := h.yes rfl
      rw [pk_all] at hv
      cases fst with
      | true => have := wgt_bd num M (vsOf post) ds'; simp only [imu, if_true]; simp; omega
      | false => have := (I.hist rfl).1.less N F O I.len hp hv hne; simp only [imu, if_true]; simp; omega

/-- What is told of the nearest dominators. -/
structure IsIdom (es : Nat → List Int) (n : Nat) (xs : List Int) : Prop where
  len : xs.length = n
  zero : xs.getD 0 (-1) = -1
  out : ∀ u, ¬ R0 es u → xs.getD u (-1) = -1
  near : ∀ v, R0 es v → v ≠ 0 → ∃ d : Nat, xs.getD v (-1) = d ∧ Near es d v
  num : ∃ num M, Num es num M ∧ M ≤ n
theorem IOk.done {es : Nat → List Int} {num : Nat → Nat} {M n : Nat} {fr : Nat → List Int} {ds : List Int} {fst : Bool} (N : Num es num M) (F : Fr es fr n) (I : IOk es num fr n ds false fst) (hn : 0 < n) (hM : M ≤ n) : IsIdom es n (ds.set 0 (-1)) := by
  have hf : fst = false := by
    cases fst with
    | false => rfl
    | true => exact absurd (I.ini rfl).1 (by simp)
  subst hf
  obtain ⟨H, h1⟩ := I.hist rfl
  have o := h1 rfl
  have hg : ∀ u, (ds.set 0 (-1)).getD u (-1) = if u = 0 then -1 else ds.getD u (-1) := fun u => getD_setI ds 0 u (-1) (by rw [I.len]; exact hn)
  refine ⟨by simp [I.len], by rw [hg, if_pos rfl], fun u hu => ?_, fun v hv h0 => ?_, num, M, N, hM⟩
  · rw [hg]; split
    · rfl
    · exact I.out u hu
  · rw [hg, if_neg h0]
    have := H.full v hv
    refine ⟨ou ds v, by unfold ou; unfold df at this; omega, still_near N F I.good H.full o hv h0⟩
theorem IsIdom.uniq {es : Nat → List Int} {num : Nat → Nat} {M n : Nat} (N : Num es num M) {xs ys : List Int} (h1 : IsIdom es n xs) (h2 : IsIdom es n ys) : xs = ys := by
  have key : ∀ u, xs.getD u (-1) = ys.getD u (-1) := fun u => by
    by_cases hu : R0 es u
    · by_cases h0 : u = 0
      · subst h0; rw [h1.zero, h2.zero]
      · obtain ⟨d, e1, n1⟩ := h1.near u hu h0
        obtain ⟨d', e2, n2⟩ := h2.near u hu h0
        rw [e1, e2, n1.uniq N n2]
    · rw [h1.out u hu, h2.out u hu]
  apply List.ext_getElem (by rw [h1.len, h2.len])
  intro i hi1 hi2
  have := key i
  simpa [List.getD, List.getElem?_eq_getElem hi1, List.getElem?_eq_getElem hi2] using this
/-- The beginning. -/
theorem IOk.start {es : Nat → List Int} {num : Nat → Nat} {fr : Nat → List Int} {n : Nat} (hn : 0 < n) : IOk es num fr n ((List.replicate n (-1)).set 0 0) true true := by
  have hg : ∀ u, ((List.replicate n (-1 : Int)).set 0 0).getD u (-1) = if u = 0 then 0 else -1 := fun u => by
    rw [getD_setI _ 0 u 0 (by simpa using hn)]
    split
    · rfl
    · rw [List.getD_eq_getElem?_getD, List.getElem?_replicate]; split <;> rfl
  have hd : ∀ u, df ((List.replicate n (-1 : Int)).set 0 0) u → u = 0 := fun u h => by
    unfold df at h; rw [hg] at h
    by_cases h0 : u = 0
    · exact h0
    · rw [if_neg h0] at h; omega
  refine ⟨by simp, fun u hu => ?_, ⟨by rw [hg]; rfl, fun v hv => ?_, fun v hv h0 => absurd (hd v hv) h0, fun v hv h0 => absurd (hd v hv) h0⟩, fun _ => ⟨rfl, hd⟩, fun h => (by cases h)⟩
  · rw [hg, if_neg (fun h => hu (by subst h; exact Rch.base (by simp)))]
  · rw [hd v hv]; exact Rch.base (by simp)
end Go.Proofs.Ytpmkkmahimdjkaa

/- flow.idom. -/
namespace Go.Proofs.Ytpmkkmahimdjkaa
open Go.Wk
set_option linter.unusedVariables false
set_option linter.unusedSimpArgs false
attribute [local irreducible] G GC GQ GA GS Exit.then Exit.inBlock

theorem backward_sp (ad : Option Addr) (n cap : Nat) (w : World) : Sp Try.prog 51 [.slice ad n cap] w [] (fun b : Nat => .func (.func 62) #[] #[.pointer (some ⟨b, 0, none⟩)]) (fun b => [[(b, .cells ⟨[.slice ad n cap]⟩ 26 (0, 0))]]) (fun _ => True) := by
  refine enter (s := Try.sx) [] Try.func51 rfl rfl rfl (Eff.refl w) ?_
  repeat' (first | refine g_pv rfl rfl ?_ | refine g_nil ?_ | refine gq_then ?_ | refine gc_seq ?_ | refine gc_region ?_ | refine gc_ret ?_ | refine g_box rfl rfl (fun _ => ?_))
  rename_i b
  exact gq_ret1 (.inr rfl) rfl rfl rfl (fun w' H => ⟨b, trivial, rfl, H⟩)
theorem kn2 {tm : Array Value} {L : LT} (h : Kn { tmps := tm, defers := [] } L) {i j : Nat} (hi : i < tm.size) (hj : j < tm.size) (u v : Value) :
    Kn { tmps := ((#[i, j] : Array Tmp).zip [u, v].toArray).foldl (fun t (q : Tmp × Value) => t.setIfInBounds q.1 q.2) tm, defers := [] } ((j, v) :: (i, u) :: L) := by
  have h1 := Kn.put (a := { tmps := tm, defers := [] }) h (d := i) hi u
  have h2 := h1.put (d := j) (by simpa [Act.put] using hj) v
  simpa [Act.put] using h2
theorem exc_le {w w' : World} {A A' : HL} (E : Eff w A w' A') : Hle (exc w A) (exc w' A') := by
  intro b o h
  unfold exc at h ⊢
  by_cases hb : b ∈ ids A
  · rw [if_pos hb] at h; cases h
  · rw [if_neg hb] at h
    have hlt := (Array.getElem?_eq_some_iff.1 h).1
    rw [if_neg (fun hb' => by rcases E.fresh b hb' with h1 | h1
                              · exact hb h1
                              · omega), E.keep b hlt hb]
    exact h
theorem exc_hw (w : World) (A : HL) : Hle (exc w A) (hw w) := fun b o h => by
  unfold exc at h
  split at h
  · cases h
  · exact h
theorem exc_cons {w : World} {A : HL} {p : Nat × Obj} {b : Nat} {o : Obj} (h : exc w A b = some o) (hb : b ≠ p.1) : exc w (p :: A) b = some o := by
  unfold exc at h ⊢
  by_cases hm : b ∈ ids A
  · rw [if_pos hm] at h; cases h
  · rw [if_neg hm] at h
    rw [if_neg (by simp [hb, hm])]; exact h
theorem hp_excL {X : Cx} {w : World} {A : HL} {R : RL} {α : Type} {e : TypeId} {sz : Nat} {f : α → List Value} {ad : Option Addr} {n cap : Nat} {l : List α} {A3 : HL} (H : Hp X w (A :: R)) (i : Nat) (hi : R[i]? = some A3) (hf : ∀ x, (f x).length = sz) (ho : OwnL e sz f (.slice ad n cap) l A3) : Rd (exc w A) f sz ad l := by
  obtain ⟨ad', cap', he, hrd⟩ := OwnL.rd hf ho (H := exc w A) (fun b o hb => hp_exc H (List.mem_flatten.2 ⟨A3, List.mem_of_getElem? hi, hb⟩))
  have he' := (Value.slice.inj he).1
  subst he'; exact hrd
theorem gc_split {X : Cx} {Q : Post} {L : LT} {c : Code} {A B C : HL} (k : GC X c Q L [A, B, C]) : GC X c Q L [A, B ++ C] := gc_heap (fun w' H => hp_cnt [] H (fun a => by simp only [List.cons_append, List.nil_append, List.set_cons_zero, List.set_cons_succ, List.flatten_append, List.flatten_cons, List.flatten_nil, List.count_append, List.count_cons, List.count_nil, List.append_nil, List.flatten_replicate_nil]; omega)) k
theorem fromsOf_get (code : List Ins) (v : Nat) (h : v < code.length) : (fromsAt code code.length)[v]? = some (frOf code v) := by
  have : v < (fromsAt code code.length).length := by rw [fromsAt_length]; exact h
  simp [frOf, List.getD, List.getElem?_eq_getElem this]
end Go.Proofs.Ytpmkkmahimdjkaa
