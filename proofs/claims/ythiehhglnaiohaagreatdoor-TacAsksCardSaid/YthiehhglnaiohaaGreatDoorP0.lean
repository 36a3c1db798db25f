/-
  The argument, read: what a reading of the function's argument says of memory.
-/
import Derived.Test.YthiehhglnaiohaaGreatDoorF5
import Derived.Test.YthiehhglnaiohaaGreatDoorRows
import Derived.ProofKit
import Derived.SizedLaws
namespace Go.Proofs.YthiehhglnaiohaaGreatDoor
open Go.Wk Go.ChangeShapes Go.WideShapes Go.ChangeAt Go.RowKit
set_option linter.unusedVariables false
set_option linter.unusedSimpArgs false

theorem list_of {α : Type} {p : Nat → α → Prop} : ∀ (n : Nat), (∀ i, i < n → ∃ x, p i x) → ∃ l : List α, l.length = n ∧ ∀ i x, l[i]? = some x → p i x
  | 0, _ => ⟨[], rfl, fun i x h => by simp at h⟩
  | n + 1, h => by
    obtain ⟨l, hl, hp⟩ := list_of n (fun i hi => h i (by omega))
    obtain ⟨x, hx⟩ := h n (by omega)
    refine ⟨l ++ [x], by simp [hl], fun i y hy => ?_⟩
    by_cases hi : i < l.length
    · rw [List.getElem?_append_left hi] at hy; exact hp i y hy
    · rw [List.getElem?_append_right (by omega)] at hy
      have h0 : i - l.length = 0 := by
        cases hk : i - l.length with
        | zero => rfl
        | succ k => rw [hk] at hy; simp at hy
      rw [h0] at hy
      cases hy
      have : i = n := by omega
      subst this; exact hx

theorem weights_all {H : Type} {P : Program} {e : TypeId} {l : List (DataW H)} {d : DataW H} (hd : d ∈ l) {n : Nat} (hn : n ∈ d.weights P e) : n ∈ DataW.weightsAll P e l := by
  induction l with
  | nil => cases hd
  | cons x l ih =>
    simp only [DataW.weightsAll, List.mem_append]
    rcases List.mem_cons.1 hd with rfl | h
    · exact .inl hn
    · exact .inr (ih h)

theorem bulk_one {H : Type} (d : DataW H) : 1 ≤ Rows.uptoBulk d := by
  cases d with
  | lit l => cases l <;> simp [Rows.uptoBulk]
  | nil => simp [Rows.uptoBulk]
  | ptr d => simp [Rows.uptoBulk]
  | slice elems spare => simp [Rows.uptoBulk]
  | agg parts => simp [Rows.uptoBulk]
  | iface t d => simp [Rows.uptoBulk]
  | map entries => simp [Rows.uptoBulk]
  | held h => simp [Rows.uptoBulk]
theorem bulk_part {H : Type} {d : DataW H} {l : List (DataW H)} (h : d ∈ l) : Rows.uptoBulk d ≤ Rows.uptoBulkAll l := by
  induction l with
  | nil => cases h
  | cons x r ih =>
    simp only [Rows.uptoBulkAll]
    rcases List.mem_cons.1 h with rfl | e
    · omega
    · have := ih e; omega
theorem bulk_len {H : Type} (l : List (DataW H)) : l.length ≤ Rows.uptoBulkAll l := by
  induction l with
  | nil => simp [Rows.uptoBulkAll]
  | cons x r ih => have := bulk_one x; simp only [Rows.uptoBulkAll, List.length_cons]; omega

section
variable {H : Type} {enc : TypeId × Value → H} {W : World} {sp : Nat → Bool} {fuel : Nat}

theorem add_at (a : Addr) (i : Nat) : (a.add i).block = a.block ∧ (a.add i).off = a.off + i := by
  unfold Addr.add
  split
  · rename_i h; subst h; exact ⟨rfl, rfl⟩
  · exact ⟨rfl, rfl⟩
theorem cell_at {a : Addr} {j : Nat} {u : Value} (h : W.cell? (a.add j) = some u) : cellAt (hw W) a.block (a.off + j) = some u := by
  have hs := World.cell?_spot h
  obtain ⟨h1, h2⟩ := add_at a j
  rw [cellAt_hw, ← h1, ← h2]
  generalize a.add j = c at hs h
  obtain ⟨b, o, s⟩ := c
  simp only at hs
  subst hs
  exact h
/-- The cells of an element, as memory holds them. -/
theorem cells_at {a : Addr} {n : Nat} {cs : List Value} (h : W.cells? 0 a n = some cs) {j : Nat} {u : Value} (hj : cs[j]? = some u) : cellAt (hw W) a.block (a.off + j) = some u := by
  obtain ⟨-, hl, hc⟩ := World.cells?_some h
  have hjl := (List.getElem?_eq_some_iff.1 hj).1
  have h1 := hc j (by omega)
  rw [hj] at h1
  exact cell_at h1
theorem spot_none {a : Addr} {n sz : Nat} {cs : List Value} (h : W.cells? 0 (a.add (0 * sz)) (n + 1) = some cs) : a = ⟨a.block, a.off, none⟩ := by
  obtain ⟨-, hl, hc⟩ := World.cells?_some h
  have h1 := hc 0 (by omega)
  rw [List.getElem?_eq_getElem (by omega)] at h1
  have hs : a.spot = none := by
    have h2 := World.cell?_spot h1
    simpa [Addr.add] using h2
  obtain ⟨b, o, s⟩ := a
  simp only at hs
  subst hs
  rfl
theorem rd_of {α : Type} {f : α → List Value} {sz : Nat} {a : Addr} {l : List α} (h : ∀ i y, l[i]? = some y → W.cells? 0 (a.add (i * (sz + 1))) (sz + 1) = some (f y)) : Rd (hw W) f (sz + 1) (some a) l := by
  intro i y hy
  have hi := (List.getElem?_eq_some_iff.1 hy).1
  have h0 := spot_none (h 0 _ (List.getElem?_eq_getElem (by omega)))
  refine ⟨a.block, a.off, by rw [h0], fun j u hj => ?_⟩
  have := cells_at (h i y hy) hj
  obtain ⟨h1, h2⟩ := add_at a (i * (sz + 1))
  rw [h1, h2] at this
  exact this

set_option maxRecDepth 100000
theorem arg_read {cs : List Value} {x : DataW H × List MemPlace} (h : DataW.trod enc Tryz.prog W 0 sp true fuel 40 cs = some x) : ∃ a : Arg, cs = a.cells ∧ a.ok := by
  obtain ⟨xs, n, rfl, rfl, hl, hxl, hf⟩ := DataW.trod_struct Tryz.underlying40 h
  have e : Tryz.prog.cellsOf 40 = 2 := by kernel_rfl
  rw [e] at hl
  match xs, hxl, cs, hl with
  | [y0, y1], _, [v0, v1], _ =>
    have c0 : Tryz.prog.cellsOf 37 = 1 := by kernel_rfl
    have c1 : Tryz.prog.cellsOf 38 = 1 := by kernel_rfl
    have h0 := hf 0 _ rfl
    have h1 := hf 1 _ rfl
    simp only [c0, c1, List.drop_zero, List.drop_succ_cons, List.take_succ_cons, List.take_zero, List.getElem?_cons_zero, List.getElem?_cons_succ] at h0 h1
    obtain ⟨k, e0, -, w0⟩ := DataW.trod_int Tryz.underlying37 h0
    obtain ⟨m, e1, -, w1⟩ := DataW.trod_int Tryz.underlying38 h1
    cases e0; cases e1
    refine ⟨⟨k, m⟩, rfl, ?_⟩
    simpa [Arg.ok, Lit.wf, IntKind.min, IntKind.max, IntKind.signed, IntKind.bits] using w1

theorem args_read {v : Value} {x : DataW H × List MemPlace} (h : DataW.trod enc Tryz.prog W 0 sp true fuel 41 [v] = some x) (hs : ∀ n ∈ x.1.weights Tryz.prog 41, n ≤ reachBytes) :
    ∃ (A : Option Addr) (c : Nat) (l : List Arg), v = .slice A l.length c ∧ Rd (hw W) Arg.cells 2 A l ∧ l.length ≤ 8796093022000 ∧ (∀ a ∈ l, a.ok) ∧ l.length ≤ Rows.uptoBulk x.1 := by
  rcases DataW.trod_slice Tryz.underlying41 h with ⟨e, -⟩ | ⟨a, len, cap, elems, rest, n, rfl, e, rfl, -, hlc, -, hel, hat, -⟩
  · cases e
    exact ⟨none, 0, [], rfl, fun i x hx => by simp at hx, by decide, (fun a ha => by cases ha), Nat.zero_le _⟩
  · cases e
    have c : Tryz.prog.cellsOf 40 = 2 := by kernel_rfl
    rw [c] at hat
    obtain ⟨l, hl, hp⟩ := list_of (α := Arg) (p := fun i y => (W.cells? 0 (a.add (i * 2)) 2 = some y.cells) ∧ y.ok) len (fun i hi => by
      have h1 := hat i hi
      rw [List.getElem?_eq_getElem (by omega : i < elems.length)] at h1
      obtain ⟨cs, h2, h3⟩ := Option.bind_eq_some_iff.1 h1
      obtain ⟨y, rfl, hy⟩ := arg_read h3
      exact ⟨y, h2, hy⟩)
    refine ⟨some a, cap, l, by rw [hl], rd_of (fun i y hy => (hp i y hy).1), ?_, fun y hy => ?_, ?_⟩
    · have := hs ((elems.length + rest.length) * Tryz.prog.bytesOf 40) (by simp [DataW.weights, Tryz.underlying41])
      have b : Tryz.prog.bytesOf 40 = 16 := by kernel_rfl
      rw [b] at this
      unfold reachBytes at this
      omega
    · obtain ⟨i, hi, rfl⟩ := List.mem_iff_getElem.1 hy
      exact (hp i _ (List.getElem?_eq_getElem hi)).2
    · simp only [Rows.uptoBulk]
      have := bulk_len (elems.map (·.1))
      rw [List.length_map] at this
      omega

theorem in64_wf {n : Int} (h : (Lit.int .i64 n).wf = true) : in64 n := by
  simpa [in64, Lit.wf, IntKind.min, IntKind.max, IntKind.signed, IntKind.bits] using h

theorem ins_read {cs : List Value} {x : DataW H × List MemPlace} (h : DataW.trod enc Tryz.prog W 0 sp true fuel 43 cs = some x) (hs : ∀ n ∈ x.1.weights Tryz.prog 43, n ≤ reachBytes) : ∃ i : Ins, cs = i.cells ∧ InsIn (hw W) i ∧ i.args.length ≤ Rows.uptoBulk x.1 := by
  obtain ⟨xs, n, rfl, rfl, hl, hxl, hf⟩ := DataW.trod_struct Tryz.underlying43 h
  have e : Tryz.prog.cellsOf 43 = 12 := by kernel_rfl
  rw [e] at hl
  match xs, hxl, cs, hl with
  | [y0, y1, y2, y3, y4, y5, y6, y7, y8, y9], _, [v0, v1, v2, v3, v4, v5, v6, v7, v8, v9, v10, v11], _ =>
    have c0 : Tryz.prog.cellsOf 35 = 1 := by kernel_rfl
    have c1 : Tryz.prog.cellsOf 36 = 1 := by kernel_rfl
    have c2 : Tryz.prog.cellsOf 3 = 1 := by kernel_rfl
    have c3 : Tryz.prog.cellsOf 40 = 2 := by kernel_rfl
    have c4 : Tryz.prog.cellsOf 4 = 1 := by kernel_rfl
    have c5 : Tryz.prog.cellsOf 41 = 1 := by kernel_rfl
    have h0 := hf 0 _ rfl
    have h1 := hf 1 _ rfl
    have h2 := hf 2 _ rfl
    have h3 := hf 3 _ rfl
    have h4 := hf 4 _ rfl
    have h5 := hf 5 _ rfl
    have h6 := hf 6 _ rfl
    have h7 := hf 7 _ rfl
    have h8 := hf 8 _ rfl
    have h9 := hf 9 _ rfl
    simp only [c0, c1, c2, c3, c4, c5, List.drop_zero, List.drop_succ_cons, List.take_succ_cons, List.take_zero, List.getElem?_cons_zero, List.getElem?_cons_succ] at h0 h1 h2 h3 h4 h5 h6 h7 h8 h9
    obtain ⟨op, e0, -, w0⟩ := DataW.trod_int Tryz.underlying35 h0
    obtain ⟨bin, e1, -, -⟩ := DataW.trod_int Tryz.underlying36 h1
    obtain ⟨d, e2, -, w2⟩ := DataW.trod_int Tryz.underlying3 h2
    obtain ⟨a, e3, w3⟩ := arg_read h3
    obtain ⟨b, e4, w4⟩ := arg_read h4
    obtain ⟨nn, e5, -, w5⟩ := DataW.trod_int Tryz.underlying3 h5
    obtain ⟨off, e6, -, -⟩ := DataW.trod_int Tryz.underlying3 h6
    obtain ⟨wi, e7, -, -⟩ := DataW.trod_int Tryz.underlying3 h7
    obtain ⟨si, e8, -⟩ := DataW.trod_bool Tryz.underlying4 h8
    obtain ⟨aA, aC, args, e9, r1, r2, r3, r4⟩ := args_read h9 (fun n hn => hs n (by
      simp [DataW.weights, Tryz.underlying43, DataW.weightsEach, hn]))
    cases e0; cases e1; cases e2; cases e3; cases e4; cases e5; cases e6; cases e7; cases e8; subst e9
    refine ⟨⟨op, bin, d, a, b, nn, off, wi, si, args, aA, aC⟩, rfl, ⟨r1, r2, fun z hz => ?_, in64_wf w0, in64_wf w2, in64_wf w5⟩, ?_⟩
    rotate_left
    · refine Nat.le_trans r4 (Nat.le_trans (bulk_part (l := [y0, y1, y2, y3, y4, y5, y6, y7, y8, y9].map (·.1)) (by simp)) ?_)
      simp only [Rows.uptoBulk]; omega
    simp only [List.mem_append, List.mem_cons, List.not_mem_nil, or_false] at hz
    rcases hz with (rfl | rfl) | hz
    · exact w3
    · exact w4
    · exact r3 z hz

theorem code_read {v : Value} {x : DataW H × List MemPlace} (h : DataW.trod enc Tryz.prog W 0 sp true fuel 30 [v] = some x) (hs : ∀ n ∈ x.1.weights Tryz.prog 30, n ≤ reachBytes) :
    ∃ (A : Option Addr) (c : Nat) (l : List Ins), v = .slice A l.length c ∧ CodeIn (hw W) A l ∧ ∀ i ∈ l, i.args.length ≤ Rows.uptoBulk x.1 := by
  rcases DataW.trod_slice Tryz.underlying30 h with ⟨e, -⟩ | ⟨a, len, cap, elems, rest, n, rfl, e, rfl, -, hlc, -, hel, hat, -⟩
  · cases e
    exact ⟨none, 0, [], rfl, ⟨fun i x hx => by simp at hx, by decide, fun a ha => by cases ha⟩, fun i hi => by cases hi⟩
  · cases e
    have c : Tryz.prog.cellsOf 43 = 12 := by kernel_rfl
    rw [c] at hat
    obtain ⟨l, hl, hp⟩ := list_of (α := Ins) (p := fun i y => (W.cells? 0 (a.add (i * 12)) 12 = some y.cells) ∧ InsIn (hw W) y ∧ y.args.length ≤ Rows.uptoBulkAll (elems.map (·.1))) len (fun i hi => by
      have hie : i < elems.length := by omega
      have h1 := hat i hi
      rw [List.getElem?_eq_getElem hie] at h1
      obtain ⟨cs, h2, h3⟩ := Option.bind_eq_some_iff.1 h1
      obtain ⟨y, rfl, hy, hb⟩ := ins_read h3 (fun n hn => hs n (by
        simp only [DataW.weights, Tryz.underlying30, List.mem_cons, List.mem_append]
        exact .inr (.inl (weights_all (List.mem_map.2 ⟨_, List.getElem_mem hie, rfl⟩) hn))))
      exact ⟨y, h2, hy, Nat.le_trans hb (bulk_part (List.mem_map.2 ⟨_, List.getElem_mem hie, rfl⟩))⟩)
    refine ⟨some a, cap, l, by rw [hl], ⟨rd_of (fun i y hy => (hp i y hy).1), ?_, fun y hy => ?_⟩, fun y hy => ?_⟩
    · have := hs ((elems.length + rest.length) * Tryz.prog.bytesOf 43) (by simp [DataW.weights, Tryz.underlying30])
      have b : Tryz.prog.bytesOf 43 = 112 := by kernel_rfl
      rw [b] at this
      unfold reachBytes at this
      omega
    · obtain ⟨i, hi, rfl⟩ := List.mem_iff_getElem.1 hy
      exact (hp i _ (List.getElem?_eq_getElem hi)).2.1
    · obtain ⟨i, hi, rfl⟩ := List.mem_iff_getElem.1 hy
      have := (hp i _ (List.getElem?_eq_getElem hi)).2.2
      simp only [Rows.uptoBulk]
      omega
end
end Go.Proofs.YthiehhglnaiohaaGreatDoor
