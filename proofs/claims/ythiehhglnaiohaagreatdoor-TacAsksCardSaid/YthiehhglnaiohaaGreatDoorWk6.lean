/-
  Rows of a library's contracts (Holds, putRow, grow) as memory of one's own.
-/
import Derived.Test.YthiehhglnaiohaaGreatDoorWk3
import Derived.Sort.Grow
import Derived.Lib.SlicesCompact
namespace Go.Wk
open Go.Sort Go.RowKit
set_option linter.unusedVariables false
set_option linter.unusedSimpArgs false

theorem Eff.row {w : World} {g q : Nat} {c : Array Value} {e : TypeId} {fz : Nat × Nat} (h : w.heap[g]? = some (.cells c e fz)) (f : Array Value → Array Value) (os : Array Obj) :
    Eff w [(g, .cells c e fz)] (Sort.grow (Sort.mapBlock (Sort.ahead w q) g f) os) [(g, .cells (f c) e fz)] := by
  have hlt := (Array.getElem?_eq_some_iff.1 h).1
  have hs : (w.heap.modify g (Sort.onCells f)).size = w.heap.size := by simp
  refine ⟨fun b o hb => ?_, by simp [ids], fun b hb => .inl hb, fun b hb hn => ?_, ?_, rfl, rfl, rfl⟩
  · simp only [List.mem_singleton, Prod.mk.injEq] at hb
    obtain ⟨rfl, rfl⟩ := hb
    show (w.heap.modify b (Sort.onCells f) ++ os)[b]? = _
    rw [Array.getElem?_append_left (by rw [hs]; exact hlt), Array.getElem?_modify, if_pos rfl, h]; rfl
  · show (w.heap.modify g (Sort.onCells f) ++ os)[b]? = _
    have hne : g ≠ b := by intro hh; apply hn; simp [ids, hh]
    rw [Array.getElem?_append_left (by rw [hs]; exact hb), Array.getElem?_modify, if_neg hne]
  · show w.heap.size ≤ (w.heap.modify g (Sort.onCells f) ++ os).size
    simp

theorem flat_one {α : Type} (f : α → Value) (l : List α) : l.flatMap (fun x => [f x]) = l.map f := by
  induction l with
  | nil => rfl
  | cons a l ih => simp [ih]

theorem put_row {α : Type} [Inhabited α] (f : α → Value) (d : List α) (l : List α) (rest : List Value) (h : d.length = l.length) :
    Sort.putCells f 0 d.toArray ⟨l.map f ++ rest⟩ = ⟨d.map f ++ rest⟩ := by
  apply Array.ext'
  apply List.ext_getElem?
  intro k
  simp only [Sort.putCells]
  simp only [Array.toList_mapIdx, List.getElem?_mapIdx]
  by_cases hk : k < d.length
  · have h1 : k < (l.map f ++ rest).length := by simp; omega
    rw [List.getElem?_eq_getElem h1]
    simp only [Option.map_some]
    rw [if_pos (by simp; omega), List.getElem?_append_left (by simpa using hk)]
    simp [List.getElem?_eq_getElem hk, getElem!_pos, hk]
  · have e1 : (l.map f ++ rest)[k]? = rest[k - d.length]? := by
      rw [List.getElem?_append_right (by simp; omega)]; simp [h]
    have e2 : (d.map f ++ rest)[k]? = rest[k - d.length]? := by
      rw [List.getElem?_append_right (by simp; omega)]; simp
    rw [e1, e2]
    cases rest[k - d.length]? with
    | none => rfl
    | some x => simp; intro hh; omega

theorem holds_row {α : Type} [Inhabited α] (f : α → Value) (l : List α) (rest : List Value) {w : World} {g : Nat} {e : TypeId} (h : w.heap[g]? = some (.cells ⟨l.map f ++ rest⟩ e (0, 0))) : Sort.Holds f w g 0 l.toArray := by
  intro j hj
  have hj' : j < l.length := by simpa using hj
  refine ⟨?_, ?_⟩
  · simp only [World.cell?, h, Nat.zero_add]
    have : (l.map f ++ rest)[j]? = some (f l[j]) := by
      rw [List.getElem?_append_left (by simpa using hj')]; simp [List.getElem?_eq_getElem hj']
    simp [this, getElem!_pos, hj']
  · simp [World.frozen?, h]

theorem run_clear1 {P : Program} {w : World} {t e e' : TypeId} {z : Value} {s b : Nat} {te : Ti} (ht : tiOf P t = some ⟨.slice e, z, s, b⟩) (hte : tiOf P e = some te) (hz : te.z.cells = #[te.z]) (h1 : te.z.oneCell' = true)
    {g o n c : Nat} {A : Option Addr} {l : List Value} (hb : w.heap[g]? = some (.cells ⟨l⟩ e' (0, 0))) (hA : 0 < n → A = some ⟨g, o, none⟩) (hn : o + n ≤ l.length) (ty : TypeId) :
    ∃ w', (Builtin.clear_ #[t] ty #[.slice A n c]).run P w = .ok (.tuple #[]) w' ∧ Eff w [(g, .cells ⟨l⟩ e' (0, 0))] w' [(g, .cells ⟨putC l o (List.replicate n te.z)⟩ e' (0, 0))] := by
  have hu := run_underlying (P := P) (tk_slice ht)
  rcases Nat.eq_zero_or_pos n with rfl | hpos
  · refine ⟨w, ?_, ?_⟩
    · cases A with
      | none => simp [Builtin.clear_, hu]
      | some a => simp [Builtin.clear_, hu]
    · simp only [List.replicate_zero, putC]
      exact Eff.put hb hb (fun _ _ => rfl) rfl rfl rfl rfl
  · have hA' := hA hpos
    subst hA'
    obtain ⟨m, rfl⟩ : ∃ m, n = m + 1 := ⟨n - 1, by omega⟩
    have hzc : (Builtin.zeroCells te.z.cells (m + 1)).toList = List.replicate (m + 1) te.z := by
      rw [hz]; simp [Builtin.zeroCells]
      apply List.ext_getElem
      · simp
      · intro i h1 h2; simp [Nat.mod_one]
    obtain ⟨w', h, E⟩ := run_storeCells (P := P) (List.replicate (m + 1) te.z) l o 0 w hb (by simp; omega) (fun v hv => by rw [List.eq_of_mem_replicate hv]; exact h1)
    refine ⟨w', ?_, by simpa using E⟩
    simp [Builtin.clear_, hu, run_zeroValue hte, hzc, h]

section
variable {X : Cx} {ops : Array Oper} {Q : Post} {rest : List Oper} {L : LT} {R : RL} {d : Nat} {x y : Operand} {v : Value} {t ty : TypeId} {p : String} {af : Array Edge}
/-- clear(s[o:]) of one's own, elements of one cell. -/
theorem g_clear1 (i : Nat) {e e' : TypeId} {z : Value} {s b : Nat} {te : Ti} {g o n c : Nat} {A : Option Addr} {l : List Value} (hR : R[i]? = some [(g, .cells ⟨l⟩ e' (0, 0))]) (hx : ev L x = some (.slice A n c))
    (ht : tl X.s.tab t = some ⟨.slice e, z, s, b⟩) (hte : tl X.s.tab e = some te) (hz : te.z.cells = #[te.z]) (h1 : te.z.oneCell' = true) (hA : 0 < n → A = some ⟨g, o, none⟩) (hn : o + n ≤ l.length)
    (k : G X ops Q rest L (R.set i [(g, .cells ⟨putC l o (List.replicate n te.z)⟩ e' (0, 0))])) :
    G X ops Q (⟨none, .call ⟨.builtin .clear, #[x], #[t]⟩, ty, p, af, none⟩ :: rest) L R :=
  g_runU (Y := Unit) (fun _ => R.set i [(g, .cells ⟨putC l o (List.replicate n te.z)⟩ e' (0, 0))]) (fun _ => True) rfl rfl (by intro c h; cases h)
    (fun a w ha hE => by
      have hb := hp_cellA hE hR
      obtain ⟨w', h, E⟩ := run_clear1 (X.s.ok.at ht) (X.s.ok.at hte) hz h1 (c := c) hb hA hn ty
      refine ⟨(), w', .inr ⟨.tuple #[], ?_⟩, hp_front i hR hE E, trivial⟩
      simp only [execOp]
      simp [resolve, invoke, builtin, ha.kn.ev hx, h]) (fun _ _ => k)
end
theorem cell1 {H : Nat → Option Obj} {b o : Nat} {v : Value} (h : cellAt H b o = some v) : ∀ (j : Nat) (u : Value), [v][j]? = some u → cellAt H b (o + j) = some u := by
  intro j u hj
  cases j with
  | zero => simp only [List.getElem?_cons_zero, Option.some.injEq] at hj; subst hj; exact h
  | succ j => simp at hj
theorem inc_eq {k : Nat} (h : k < 4611686018427387904) : some (Value.int .i64 (IntKind.i64.wrap ((k : Int) + 1))) = some (Value.int .i64 ((k + 1 : Nat) : Int)) :=
  congrArg (fun z => some (Value.int .i64 z)) (by rw [IntKind.wrap_i64]; omega)
theorem inc_eqZ {k : Int} (h : -4611686018427387904 ≤ k ∧ k < 4611686018427387904) : some (Value.int .i64 (IntKind.i64.wrap (k + 1))) = some (Value.int .i64 (k + 1)) :=
  congrArg (fun z => some (Value.int .i64 z)) (by rw [IntKind.wrap_i64]; omega)
/-- What memory outside A holds. -/
def exc (w : World) (A : HL) : Nat → Option Obj := fun b => if b ∈ ids A then none else w.heap[b]?
theorem hw_exc {w : World} : exc w [] = hw w := by funext b; simp [exc, hw, ids]
theorem OwnL.rd {α : Type} {e : TypeId} {sz : Nat} {f : α → List Value} {v : Value} {l : List α} {A : HL} (hf : ∀ x, (f x).length = sz) (ho : OwnL e sz f v l A) {H : Nat → Option Obj} (hA : ∀ b o, (b, o) ∈ A → H b = some o) :
    ∃ ad cap, v = .slice ad l.length cap ∧ Rd H f sz ad l := by
  rcases ho.2 with ⟨rfl, h2, h3⟩ | ⟨g, cap, rest, rfl, rfl, h3, h4, h5⟩
  · have := List.eq_nil_of_length_eq_zero h2
    subst this
    exact ⟨none, 0, rfl, fun i x hx => by simp at hx⟩
  · refine ⟨some ⟨g, 0, none⟩, cap, rfl, fun i x hx => ⟨g, 0, rfl, fun j u hj => ?_⟩⟩
    have hg := hA g _ List.mem_cons_self
    simp only [cellAt, hg]
    have h6 := flat_get hf l i x hx j u hj
    have : (l.flatMap f ++ rest)[0 + i * sz + j]? = some u := by
      rw [Nat.zero_add, List.getElem?_append_left (List.getElem?_eq_some_iff.1 h6).1]; exact h6
    simpa using this
theorem enterA {s : Sx} {f : FuncId} {fn : Func} {c : Code} {args : List Value} {w : World} {Rp : Ending → World → Prop} (A0 : RL) {A : HL} {N : Nat} (hA : A0.flatten = A)
    (hf : s.P.funcs[f]? = some fn) (hb : fn.body = some c) (hN : fn.ntmps = N) (hlen : Nat.ble args.length N = true)
    (hE : Eff w A w A)
    (h : GC ⟨s, none, 0, N, [], w, A⟩ c (bodyPost s.P fn Rp) (zipL 0 args) A0) : Calls s.P f args.toArray w Rp := by
  subst hA; exact enter A0 hf hb hN hlen hE h
theorem hp_eff {X : Cx} {w : World} {A : HL} {R : RL} (H : Hp X w (A :: R)) : Eff w A w A :=
  Eff.start w A (fun b o hb => H.holds b o (List.mem_append_left _ hb)) (by
    have := H.nodup
    rw [List.flatten_cons, ids_append] at this
    exact (List.nodup_append.1 this).1)
theorem hp_exc {X : Cx} {w : World} {A : HL} {R : RL} (H : Hp X w (A :: R)) {b : Nat} {o : Obj} (h : (b, o) ∈ R.flatten) : exc w A b = some o := by
  unfold exc
  have hn := H.nodup
  rw [List.flatten_cons, ids_append] at hn
  rw [if_neg (fun hb => (List.nodup_append.1 hn).2.2 b hb b (mem_ids.2 ⟨o, h⟩) rfl)]
  exact H.holds b o (List.mem_append_right _ h)
theorem hp_excO {X : Cx} {w : World} {A : HL} {R : RL} (H : Hp X w (A :: R)) {b : Nat} {o : Obj} (h : Oldh X b = some o) : exc w A b = some o := by
  unfold exc
  rw [if_neg, ← old_hw H h]; rfl
  intro hb
  rcases H.fresh b (by rw [List.flatten_cons, ids_append]; exact List.mem_append_left _ hb) with h1 | h1
  · unfold Oldh at h; rw [if_pos h1] at h; cases h
  · unfold Oldh at h
    split at h
    · cases h
    · exact absurd (Array.getElem?_eq_some_iff.1 h).1 (by omega)
/-- A call that is handed the part of R that is ahead. -/
theorem g_callA {X : Cx} {ops : Array Oper} {Q : Post} {rest : List Oper} {L : LT} {R : RL} {d : Nat} {ty : TypeId} {p : String} {af : Array Edge}
    {g : FuncId} {f : Operand} {f1 cp : Array Value} {xs : Array Operand} {ats : Array TypeId} {vs gs : List Value} {Y : Type} {vf : Y → Value} {post : Y → Prop} {A' : Y → RL} {A : HL} {F : RL}
    (hR : R = A :: F)
    (hf : ev L f = some (.func (.func g) f1 cp)) (hg : Cl X.s.P g) (hxs : evs L xs.toList = some vs) (has : f1.toList ++ vs ++ cp.toList = gs)
    (hc : ∀ w, Hp X w (A :: F) → Sp X.s.P g gs w A vf A' post)
    (hN : Nat.blt d X.N = true) (k : ∀ y, post y → G X ops Q rest ((d, vf y) :: L) (A' y ++ F)) :
    G X ops Q (⟨some d, .call ⟨.value f, xs, ats⟩, ty, p, af, none⟩ :: rest) L R :=
  g_callG hf hg hxs has (fun w hE => (hc w (hR ▸ hE)).mono (fun e w' ⟨y, hp, he, E⟩ => ⟨y, hp, he, by
    unfold Hp at hE
    rw [hR, List.flatten_cons] at hE
    have := Eff.seq hE E
    unfold Hp
    rw [List.flatten_append]; exact this⟩)) hN k
theorem putC_tail (xs ys zs : List Value) (h : ys.length = zs.length) (rest : List Value) : putC (xs ++ (ys ++ rest)) xs.length zs = xs ++ zs ++ rest := by
  rw [putC_append zs xs (ys ++ rest) (by simp; omega), ← h]
  simp
end Go.Wk
