/-
  Slices: what one owns, appends to, makes, cuts; what one reads of old memory.
  Rows of a library's contracts (Holds, putRow, grow) as memory of one's own.
  DERIVED: THE SHELF's CONTRACTS AT THIS DUMP, IN PLAIN WORDS (tools/lay-plain.mjs out of 'TryShelf.lean', which tools/lay-shelf.mjs wrote): THE SAME DECLARATIONS UNDER THE SAME NAMES: 'import', 'namespace', 'open', 'def', 'theorem' AND NOTHING ELSE: no command of the shelf's: FOR A HAND-IN. Each laying: the table of numbers ('.._ren') and one theorem, a field a fact of the dump's own or the kernel's comparison; each contract: ONE APPLICATION.
  Maps of one's own: made, asked, written, gone through.
  The types of this translation, as a table; the kernel holds it against the program's own.
  The library's Sort, Compact, Clone at []int: the shelf's contracts, laid, as contracts over memory of one's own.
  What instructions read and write, where they go on: as plain functions.
-/
import Derived.Test.YtpohhfggmaihpaaGreatDoorZ1
import Derived.Laws.AppendOwn
import Derived.Laws.MakeOwn
import Derived.Sort.Grow
import Derived.Lib.SlicesCompact
import Derived.Shelf.Sort.Plain
import Derived.Ground.Names2Prog
import Derived.Shelf.Slices.CompactI
import Derived.Shelf.Slices.Cells
import Derived.Shelf.Slices.In.SortNone
import Derived.Test.YtpohhfggmaihpaaGreatDoorProg
import Derived.MapKept

/- Slices: what one owns, appends to, makes, cuts; what one reads of old memory. -/
namespace Go.Wk
set_option linter.unusedVariables false
set_option linter.unusedSimpArgs false

/-- A slice of one's own: n elements of type e, of sz cells each, all cells xs; A is its memory. -/
def Own (e : TypeId) (sz : Nat) (v : Value) (n : Nat) (xs : List Value) (A : HL) : Prop :=
  xs.length = n * sz ∧ ((v = .slice none 0 0 ∧ n = 0 ∧ A = []) ∨ ∃ g cap rest, v = .slice (some ⟨g, 0, none⟩) n cap ∧ A = [(g, .cells ⟨xs ++ rest⟩ e (0, 0))] ∧ n ≤ cap ∧ cap ≤ maxLen ∧ (xs ++ rest).length = cap * sz)

theorem Own.nil (e : TypeId) (sz : Nat) : Own e sz (.slice none 0 0) 0 [] [] := ⟨by simp, .inl ⟨rfl, rfl, rfl⟩⟩
theorem Own.shape {e : TypeId} {sz : Nat} {v : Value} {n : Nat} {xs : List Value} {A : HL} (h : Own e sz v n xs A) : ∃ ad cap, v = .slice ad n cap ∧ (0 < n → ∃ g, ad = some ⟨g, 0, none⟩) := by
  rcases h.2 with ⟨rfl, rfl, rfl⟩ | ⟨g, cap, rest, rfl, _⟩
  · exact ⟨none, 0, rfl, fun h => by omega⟩
  · exact ⟨_, cap, rfl, fun _ => ⟨g, rfl⟩⟩
theorem Own.pos {e : TypeId} {sz : Nat} {v : Value} {n : Nat} {xs : List Value} {A : HL} (h : Own e sz v n xs A) (hn : 0 < n) :
    ∃ g cap rest, v = .slice (some ⟨g, 0, none⟩) n cap ∧ A = [(g, .cells ⟨xs ++ rest⟩ e (0, 0))] ∧ n ≤ cap ∧ cap ≤ maxLen ∧ (xs ++ rest).length = cap * sz := by
  rcases h.2 with ⟨_, h0, _⟩ | h
  · omega
  · exact h

theorem putC_append : ∀ (vs xs rest : List Value), vs.length ≤ rest.length → putC (xs ++ rest) xs.length vs = xs ++ vs ++ rest.drop vs.length
  | [], xs, rest, _ => by simp [putC]
  | v :: vs, xs, [], h => by simp at h
  | v :: vs, xs, r :: rest, h => by
    simp only [putC]
    rw [List.set_append_right _ _ (Nat.le_refl _)]
    simp only [Nat.sub_self, List.set_cons_zero]
    have ih := putC_append vs (xs ++ [v]) rest (by simpa using h)
    simp only [List.append_assoc, List.singleton_append, List.length_append, List.length_singleton] at ih
    simpa using ih

theorem nextcap_le {n c : Nat} (h : c < n) : Builtin.nextslicecap n c ≤ 2 * n := by
  unfold Builtin.nextslicecap
  split
  · omega
  · split
    · omega
    · have key : ∀ (r c : Nat), c ≤ 2 * n → 256 ≤ n → Builtin.growBy n r c ≤ 2 * n := by
        intro r
        induction r with
        | zero => intro c hc _; simpa [Builtin.growBy] using hc
        | succ r ih =>
          intro c hc hn
          simp only [Builtin.growBy]
          split
          · exact hc
          · exact ih _ (by omega) hn
      exact key _ _ (by omega) (by omega)

theorem run_append {P : Program} {t e : TypeId} {z : Value} {s b : Nat} {te : Ti} (ht : tiOf P t = some ⟨.slice e, z, s, b⟩) (hte : tiOf P e = some te) (hsz : 0 < te.sz) (hz : te.z.cells.size = te.sz)
    {v : Value} {n : Nat} {xs : List Value} {A : HL} {w : World} (hown : Own e te.sz v n xs A) (hA : ∀ g o, (g, o) ∈ A → w.heap[g]? = some o)
    {yA : Option Addr} {m c : Nat} {news : List Value} (hl : news.length = m * te.sz) (hn : ∀ j u, news[j]? = some u → ∃ a, yA = some a ∧ w.cell? (a.add j) = some u) (h1 : ∀ u ∈ news, u.oneCell' = true)
    (hmax : n + m ≤ maxLen) (hbytes : (n + m) * te.by' ≤ 140737488355328) (ty : TypeId) :
    ∃ v' A' w', (Builtin.append_ #[t, t] ty #[v, .slice yA m c]).run P w = .ok v' w' ∧ Own e te.sz v' (n + m) (xs ++ news) A' ∧ Eff w A w' A' := by
  obtain ⟨d, i, hd, hi, hk, hzz, hs, hb⟩ := tiOf_spec hte
  have hu := tk_slice ht
  have hsi : 0 < i.size := by rw [hs]; exact hsz
  have hlx : news.length = m * i.size := by rw [hs]; exact hl
  have hmx : n + m ≤ 9223372036854775807 := by unfold maxLen at hmax; omega
  have hbi : (n + m) * i.bytes ≤ 140737488355328 := by rw [hb]; exact hbytes
  -- nothing appended
  by_cases hm0 : m = 0
  · subst hm0
    have hnews : news = [] := List.eq_nil_of_length_eq_zero (by simpa using hl)
    subst hnews
    refine ⟨v, A, w, ?_, by simpa using hown, Eff.start w A hA ?_⟩
    · rcases hown.2 with ⟨rfl, rfl, rfl⟩ | ⟨g, cap, rest, rfl, rfl, h2, h3, h4⟩
      · cases yA <;> simp [Builtin.append_, run_underlying hu, sizeOf, typeInfo, hi, Builtin.lenOf, Builtin.firstCells, loadCells, loadCellsFrom]
      · cases yA <;> simp [Builtin.append_, run_underlying hu, sizeOf, typeInfo, hi, Builtin.lenOf, h2, Builtin.firstCells, loadCells, loadCellsFrom, storeCells]
    · rcases hown.2 with ⟨rfl, rfl, rfl⟩ | ⟨g, cap, rest, rfl, rfl, h2, h3, h4⟩ <;> simp [ids]
  -- something
  have hpos : 0 < news.length := by rw [hl]; exact Nat.mul_pos (Nat.pos_of_ne_zero hm0) hsz
  obtain ⟨a, ha, _⟩ := hn 0 news[0] (List.getElem?_eq_getElem hpos)
  subst ha
  have hnews : ∀ j u, news[j]? = some u → w.cell? (a.add j) = some u := fun j u hj => by
    obtain ⟨a', ha', h⟩ := hn j u hj
    obtain rfl := Option.some.inj ha'
    exact h
  have hlen : (xs ++ news).length = (n + m) * te.sz := by rw [List.length_append, hown.1, hl, Nat.add_mul]
  have grown : ∀ old, old < n + m → (A' : HL) → (∀ g o, (g, o) ∈ A' → w.heap[g]? = some o) → (ids A').Nodup →
      Own e te.sz (.slice (some ⟨w.heap.size, 0, none⟩) (n + m) (grownCap w (n + m) old e)) (n + m) (xs ++ news) [(w.heap.size, .cells ⟨(xs ++ news) ++ (Builtin.zeroCells te.z.cells (grownCap w (n + m) old e - (n + m))).toList⟩ e (0, 0))] ∧
      Eff w A' (w.drew.alloc (.cells ⟨(xs ++ news) ++ (Builtin.zeroCells te.z.cells (grownCap w (n + m) old e - (n + m))).toList⟩ e)) [(w.heap.size, .cells ⟨(xs ++ news) ++ (Builtin.zeroCells te.z.cells (grownCap w (n + m) old e - (n + m))).toList⟩ e (0, 0))] := by
    intro old ho A' hA' hnd
    have hge := grownCap_ge w (n + m) old e
    have hcm := grownCap_le_maxLen w (n + m) old e hmax
    refine ⟨⟨hlen, .inr ⟨_, _, _, rfl, rfl, hge, hcm, ?_⟩⟩, ?_⟩
    · rw [List.length_append, hlen, Array.length_toList, size_zeroCells, hz, ← Nat.add_mul]
      congr 1; omega
    · have E := Eff.seq0 (Eff.start w A' hA' hnd) (Eff.drew w)
      simp only [List.nil_append] at E
      have E2 := Eff.seq0 E (Eff.alloc w.drew (.cells ⟨(xs ++ news) ++ (Builtin.zeroCells te.z.cells (grownCap w (n + m) old e - (n + m))).toList⟩ e))
      exact Eff.sel E2 A' (List.Perm.refl _)
  rcases hown.2 with ⟨rfl, rfl, rfl⟩ | ⟨g, cap, rest, rfl, rfl, h2, h3, h4⟩
  · have hx : xs = [] := List.eq_nil_of_length_eq_zero (by simpa using hown.1)
    subst hx
    have hr := run_append_nil (P := P) w t ty e i te.z hu hi hzz a m c news hlx hnews (by omega) (by omega) (by simp only [Nat.zero_add] at hbi; omega)
    obtain ⟨g1, g2⟩ := grown 0 (by omega) [] (fun _ _ h => by cases h) (by simp [ids])
    simp only [Nat.zero_add, List.nil_append] at g1 g2 ⊢
    refine ⟨_, _, _, hr, g1, ?_⟩
    have e1 : (news.toArray ++ Builtin.zeroCells te.z.cells (grownCap w m 0 e - m)) = ⟨news ++ (Builtin.zeroCells te.z.cells (grownCap w m 0 e - m)).toList⟩ := by apply Array.ext'; simp
    rw [e1]
    exact g2
  · have hg := hA g _ List.mem_cons_self
    by_cases hroom : n + m ≤ cap
    · -- there is room
      have hrl : news.length ≤ rest.length := by
        have h5 : xs.length + rest.length = cap * te.sz := by simpa using h4
        rw [hown.1] at h5
        have h6 : (n + m) * te.sz ≤ cap * te.sz := Nat.mul_le_mul_right _ hroom
        rw [Nat.add_mul] at h6
        omega
      obtain ⟨w', hst, E⟩ := run_storeCells (P := P) (e := e) news (xs ++ rest) xs.length 0 w hg (by simp; omega) h1
      simp only [Nat.add_zero] at E
      rw [putC_append news xs rest hrl] at E
      refine ⟨.slice (some ⟨g, 0, none⟩) (n + m) cap, _, w', ?_, ⟨hlen, .inr ⟨g, cap, rest.drop news.length, rfl, rfl, hroom, h3, ?_⟩⟩, E⟩
      · have hf := run_firstCells_some (P := P) w i.size m a m c news hlx hnews
        have hxs : xs.length = n * i.size := by rw [hs]; exact hown.1
        rw [hxs] at hst
        simp [Builtin.append_, run_underlying hu, sizeOf, typeInfo, hi, Builtin.lenOf, hroom, hf, addr_add, hst]
      · have h5 : xs.length + rest.length = cap * te.sz := by simpa using h4
        simp only [List.length_append, List.length_drop]
        omega
    · -- it grows
      have hxl : xs.length = n * i.size := by rw [hs]; exact hown.1
      have hcells : ∀ j u, xs[j]? = some u → w.cell? ((⟨g, 0, none⟩ : Addr).add j) = some u := fun j u hj => by
        rw [addr_add]
        have hj' : j < xs.length := (List.getElem?_eq_some_iff.1 hj).1
        simp only [World.cell?, hg, Nat.zero_add]
        simp [List.getElem?_append_left hj', hj]
      have hfit : Builtin.nextslicecap (n + m) cap * i.bytes ≤ 281474976710656 := by
        have h5 := nextcap_le (n := n + m) (c := cap) (by omega)
        have h6 : Builtin.nextslicecap (n + m) cap * i.bytes ≤ 2 * (n + m) * i.bytes := Nat.mul_le_mul_right _ h5
        rw [Nat.mul_assoc] at h6
        omega
      have hr := run_append_grow (P := P) w t ty e i te.z hu hi hzz ⟨g, 0, none⟩ n cap xs hxl hcells a m c news hlx hnews (by omega) (by omega) hfit
      obtain ⟨g1, g2⟩ := grown cap (by omega) [(g, .cells ⟨xs ++ rest⟩ e (0, 0))] hA (by simp [ids])
      refine ⟨_, _, _, hr, g1, ?_⟩
      have e1 : (xs.toArray ++ news.toArray ++ Builtin.zeroCells te.z.cells (grownCap w (n + m) cap e - (n + m))) = ⟨(xs ++ news) ++ (Builtin.zeroCells te.z.cells (grownCap w (n + m) cap e - (n + m))).toList⟩ := by apply Array.ext'; simp
      rw [e1]
      exact g2

section
variable {X : Cx} {ops : Array Oper} {Q : Post} {rest : List Oper} {L : LT} {R : RL} {d : Nat} {x y : Operand} {t ty : TypeId} {p : String} {af : Array Edge} {v : Value}

theorem lk_hd (d : Nat) (v : Value) (L : LT) : lk ((d, v) :: L) d = some v := by simp [lk]

/-- append(s, more...): s is number i of what one owns. -/
theorem g_app (i : Nat) {A : HL} {e : TypeId} {z : Value} {s b : Nat} {te : Ti} {n : Nat} {xs news : List Value} {yA : Option Addr} {m c : Nat}
    (hR : R[i]? = some A) (hx : ev L x = some v) (hy : ev L y = some (.slice yA m c)) (ht : tl X.s.tab t = some ⟨.slice e, z, s, b⟩) (hte : tl X.s.tab e = some te) (hsz : Nat.blt 0 te.sz = true) (hz : te.z.cells.size = te.sz)
    (hown : Own e te.sz v n xs A) (hl : news.length = m * te.sz) (hn : ∀ w, Hp X w R → ∀ j u, news[j]? = some u → ∃ a, yA = some a ∧ w.cell? (a.add j) = some u) (h1 : ∀ u ∈ news, u.oneCell' = true)
    (hmax : n + m ≤ maxLen) (hbytes : (n + m) * te.by' ≤ 140737488355328) (hN : Nat.blt d X.N = true)
    (k : ∀ v' A', Own e te.sz v' (n + m) (xs ++ news) A' → G X ops Q rest ((d, v') :: L) (R.set i A')) :
    G X ops Q (⟨some d, .call ⟨.builtin .append, #[x, y], #[t, t]⟩, ty, p, af, none⟩ :: rest) L R :=
  g_run (Y := Value × HL) (fun q => q.1) (fun q => R.set i q.2) (fun q => Own e te.sz q.1 (n + m) (xs ++ news) q.2) rfl rfl hN (by intro c h; cases h)
    (fun a w ha hE => by
      have H1 := hp_pick i hR hE
      obtain ⟨v', A', w', hr, ho, E⟩ := run_append (X.s.ok.at ht) (X.s.ok.at hte) (show 0 < te.sz from Nat.le_of_ble_eq_true hsz) hz hown (fun g o hg => H1.holds g o (List.mem_append_left _ hg)) hl (c := c) (hn w hE) h1 hmax hbytes ty
      refine ⟨(v', A'), w', ?_, hp_front i hR hE E, ho⟩
      simp only [execOp]
      simp [resolve, invoke, builtin, ha.kn.ev hx, ha.kn.ev hy, hr]) (fun q hq => k q.1 q.2 hq)

/-! ### A slice that is written out -/
def rep (n : Nat) (l : List Value) : List Value := (List.replicate n l).flatten

theorem zeros_rep (z : Array Value) (n : Nat) : ((Array.range (n * z.size)).map (fun i => z[i % z.size]!)).toList = rep n z.toList := by
  induction n with
  | zero => simp [rep]
  | succ n ih =>
    have e1 : rep (n + 1) z.toList = rep n z.toList ++ z.toList := by
      unfold rep
      rw [List.replicate_succ', List.flatten_append]; simp
    rw [e1, ← ih]
    simp only [Array.toList_map, Array.toList_range, Nat.succ_mul]
    rw [List.range_add, List.map_append, List.map_map]
    congr 1
    apply List.ext_getElem
    · simp
    · intro i h1 h2
      simp at h1 h2
      simp [Nat.mod_eq_of_lt h2, h2]

/-- '[]T{..}' of len elements whose cells are cs. -/
theorem run_buildSlice {P : Program} {t e : TypeId} {z : Value} {s b : Nat} {te : Ti} (ht : tiOf P t = some ⟨.slice e, z, s, b⟩) (hte : tiOf P e = some te) (len : Nat) (parts : Array (Nat × Value)) (cs : Array Value)
    (hf : Instr.fill (fun i => some (i * te.sz, te.sz)) ((Array.range (len * te.sz)).map (fun i => te.z.cells[i % te.z.cells.size]!)) parts.toList = some cs) (hsmall : len * te.sz ≤ 2 ^ 24) (hpos : len * te.sz ≠ 0) (w : World) :
    (Instr.buildSlice t len parts).run P w = .ok (.slice (some ⟨w.heap.size, 0, none⟩) len len) (w.alloc (.cells cs e)) := by
  have h1 : ¬ (len * te.sz > 2 ^ 24) := by omega
  simp only [Instr.buildSlice, Sem.run_bind, run_underlying (tk_slice ht), Result.andThen_ok, run_sizeOf hte, h1, if_false, hpos, run_zeroValue hte, run_pure', hf]
  rfl

theorem g_lit {e : TypeId} {z : Value} {s b : Nat} {te : Ti} {len : Nat} {parts : Array (Nat × Operand)} {vs : List Value} {cs : List Value} (ht : tl X.s.tab t = some ⟨.slice e, z, s, b⟩) (hte : tl X.s.tab e = some te)
    (hv : evs L (parts.toList.map (·.2)) = some vs) (hf : Instr.fill (fun i => some (i * te.sz, te.sz)) ((Array.range (len * te.sz)).map (fun i => te.z.cells[i % te.z.cells.size]!)) ((parts.toList.map (·.1)).zip vs) = some ⟨cs⟩)
    (hsmall : Nat.ble (len * te.sz) (2 ^ 24) = true) (hpos : Nat.beq (len * te.sz) 0 = false) (hN : Nat.blt d X.N = true)
    (k : ∀ g, G X ops Q rest ((d, .slice (some ⟨g, 0, none⟩) len len) :: L) ([(g, .cells ⟨cs⟩ e (0, 0))] :: R)) :
    G X ops Q (⟨some d, .buildSlice t len parts, ty, p, af, none⟩ :: rest) L R :=
  g_run (Y := Nat) (fun g => .slice (some ⟨g, 0, none⟩) len len) (fun g => [(g, .cells ⟨cs⟩ e (0, 0))] :: R) (fun _ => True) rfl rfl hN (by intro c h; cases h)
    (fun a w ha hE => by
      have hp : (parts.map fun (i, x) => (i, a.eval x)).toList = (parts.toList.map (·.1)).zip vs := by
        have h1 := evs_map (fun x u h => ha.kn.ev h) hv
        rw [← h1]
        simp only [Array.toList_map, List.map_map]
        generalize parts.toList = l
        induction l with
        | nil => rfl
        | cons q l ih => simp only [List.map_cons, List.zip_cons_cons, ih]; rfl
      have hr := run_buildSlice (P := X.s.P) (X.s.ok.at ht) (X.s.ok.at hte) len (parts.map fun (i, x) => (i, a.eval x)) ⟨cs⟩ (by rw [hp]; exact hf) (Nat.le_of_ble_eq_true hsmall) (Nat.ne_of_beq_eq_false hpos) w
      refine ⟨w.heap.size, _, ?_, hp_alloc hE _, trivial⟩
      simp only [execOp]
      rw [Sem.run_bind]
      have e2 : (parts.map fun (x : Nat × Operand) => (x.1, a.eval x.2)) = (parts.map fun (i, x) => (i, a.eval x)) := rfl
      rw [hr]; rfl) (fun g _ => k g)

theorem foldl_put : ∀ (l : List Value) (k o : Nat) (cs : Array Value), (l.zipIdx k).foldl (fun (cs : Array Value) (x : Value × Nat) => cs.setIfInBounds (o + x.2) x.1) cs = (putC cs.toList (o + k) l).toArray
  | [], k, o, cs => by simp [putC]
  | v :: l, k, o, cs => by
    simp only [List.zipIdx_cons, List.foldl_cons, putC]
    rw [foldl_put l (k + 1) o]
    simp [Nat.add_assoc]

theorem fill_seq {sz : Nat} : ∀ (vs : List Value) (k : Nat) (done rest : List Value), (∀ v ∈ vs, v.cells.size = sz) → done.length = k * sz → vs.length * sz ≤ rest.length →
    Instr.fill (fun i => some (i * sz, sz)) ⟨done ++ rest⟩ ((List.range' k vs.length).zip vs) = some ⟨done ++ (vs.map (·.cells.toList)).flatten ++ rest.drop (vs.length * sz)⟩
  | [], k, done, rest, _, _, _ => by simp [Instr.fill]
  | v :: vs, k, done, rest, hv, hd, hr => by
    have hsv := hv v List.mem_cons_self
    simp only [List.length_cons, Nat.add_mul, Nat.one_mul] at hr
    simp only [List.length_cons, List.range'_succ, List.zip_cons_cons, Instr.fill]
    have hsize : ((⟨done ++ rest⟩ : Array Value)).size = done.length + rest.length := by simp
    have h1 : ¬ (v.cells.size ≠ sz) := by simp [hsv]
    have h2 : ¬ (k * sz + v.cells.size > ((⟨done ++ rest⟩ : Array Value)).size) := by rw [hsize]; omega
    rw [if_neg (by simp only [Bool.or_eq_true, decide_eq_true_eq, not_or]; exact ⟨h1, h2⟩)]
    have e1 : v.cells.zipIdx.foldl (fun cs (x : Value × Nat) => cs.setIfInBounds (k * sz + x.2) x.1) (⟨done ++ rest⟩ : Array Value) = ⟨(done ++ v.cells.toList) ++ rest.drop sz⟩ := by
      have h5 : v.cells.zipIdx.foldl (fun cs (x : Value × Nat) => cs.setIfInBounds (k * sz + x.2) x.1) (⟨done ++ rest⟩ : Array Value) = (v.cells.toList.zipIdx 0).foldl (fun cs (x : Value × Nat) => cs.setIfInBounds (k * sz + x.2) x.1) (⟨done ++ rest⟩ : Array Value) := by
        rw [← Array.foldl_toList]; simp
      rw [h5, foldl_put]
      have h6 : putC (done ++ rest) (k * sz + 0) v.cells.toList = done ++ v.cells.toList ++ rest.drop v.cells.toList.length := by
        rw [Nat.add_zero, ← hd]; exact putC_append _ _ _ (by simp; omega)
      simp only [h6]
      simp [hsv]
    have ih := fill_seq vs (k + 1) (done ++ v.cells.toList) (rest.drop sz) (fun u hu => hv u (List.mem_cons_of_mem _ hu)) (by rw [List.length_append, hd, Array.length_toList, hsv, Nat.add_mul]; omega) (by rw [List.length_drop]; omega)
    have e2 : (v.cells.zipIdx.foldl (fun cs (x : Value × Nat) => match x with | (c, j) => cs.setIfInBounds (k * sz + j) c) (⟨done ++ rest⟩ : Array Value)) = ⟨(done ++ v.cells.toList) ++ rest.drop sz⟩ := e1
    rw [e2, ih]
    simp only [List.map_cons, List.flatten_cons, List.append_assoc, List.drop_drop, Option.some.injEq, Array.mk.injEq, List.append_cancel_left_eq]
    rw [show sz + vs.length * sz = (vs.length + 1) * sz from by rw [Nat.add_mul]; omega]

theorem fill_all {sz : Nat} (z : Array Value) (hz : z.size = sz) (vs : List Value) (hv : ∀ v ∈ vs, v.cells.size = sz) :
    Instr.fill (fun i => some (i * sz, sz)) ((Array.range (vs.length * sz)).map (fun i => z[i % z.size]!)) ((List.range vs.length).zip vs) = some ⟨(vs.map (·.cells.toList)).flatten⟩ := by
  have h := fill_seq (sz := sz) vs 0 [] ((Array.range (vs.length * sz)).map (fun i => z[i % z.size]!)).toList hv (by simp) (by simp)
  have h' : Instr.fill (fun i => some (i * sz, sz)) ((Array.range (vs.length * sz)).map (fun i => z[i % z.size]!)) ((List.range' 0 vs.length).zip vs) = _ := h
  rw [List.range_eq_range', h']
  have : List.drop (vs.length * sz) ((Array.range (vs.length * sz)).map (fun i => z[i % z.size]!)).toList = [] := by
    apply List.drop_eq_nil_of_le; simp
  rw [this]; simp


/-- A literal whose elements are all written. -/
theorem g_litL {X : Cx} {ops : Array Oper} {Q : Post} {rest : List Oper} {L : LT} {R : RL} {d : Nat} {t ty : TypeId} {p : String} {af : Array Edge} {e : TypeId} {z : Value} {s b : Nat} {te : Ti} {len : Nat} {parts : Array (Nat × Operand)} {vs : List Value} (ht : tl X.s.tab t = some ⟨.slice e, z, s, b⟩) (hte : tl X.s.tab e = some te)
    (hv : evs L (parts.toList.map (·.2)) = some vs) (hi : parts.toList.map (·.1) = List.range len) (hz : te.z.cells.size = te.sz) (hc : (vs.all fun v => Nat.beq v.cells.size te.sz) = true) (hlen : vs.length = len)
    (hsmall : Nat.ble (len * te.sz) (2 ^ 24) = true) (hpos : Nat.beq (len * te.sz) 0 = false) (hN : Nat.blt d X.N = true)
    (k : ∀ g, G X ops Q rest ((d, .slice (some ⟨g, 0, none⟩) len len) :: L) ([(g, .cells ⟨(vs.map (·.cells.toList)).flatten⟩ e (0, 0))] :: R)) :
    G X ops Q (⟨some d, .buildSlice t len parts, ty, p, af, none⟩ :: rest) L R := by
  subst hlen
  refine g_lit ht hte hv ?_ hsmall hpos hN k
  rw [hi]
  exact fill_all te.z.cells hz vs (fun v hv' => Nat.eq_of_beq_eq_true (List.all_eq_true.1 hc v hv'))

/-- append(s, x): two operations. -/
theorem g_app1 (i : Nat) {d1 : Nat} {ty1 : TypeId} {p1 : String} {af1 : Array Edge} {A : HL} {e : TypeId} {z : Value} {s b : Nat} {te : Ti} {n : Nat} {xs : List Value} {u : Value} {cs : List Value}
    (hR : R[i]? = some A) (hx : ev L x = some v) (hd : (match x with | .tmp t => Nat.beq d1 t | _ => false) = false) (hy : ev L y = some u) (ht : tl X.s.tab t = some ⟨.slice e, z, s, b⟩) (hte : tl X.s.tab e = some te) (hsz : Nat.blt 0 te.sz = true) (hz : te.z.cells.size = te.sz)
    (hf : u.cells = ⟨cs⟩) (hsmall : Nat.ble (1 * te.sz) (2 ^ 24) = true)
    (hl : cs.length = te.sz) (h1 : ∀ c ∈ cs, c.oneCell' = true)
    (hown : Own e te.sz v n xs A) (hmax : n + 1 ≤ maxLen) (hbytes : (n + 1) * te.by' ≤ 140737488355328) (hN1 : Nat.blt d1 X.N = true) (hN : Nat.blt d X.N = true)
    (k : ∀ v' A' g, Own e te.sz v' (n + 1) (xs ++ cs) A' → G X ops Q rest ((d, v') :: (d1, .slice (some ⟨g, 0, none⟩) 1 1) :: L) (R.set i A')) :
    G X ops Q (⟨some d1, .buildSlice t 1 #[(0, y)], ty1, p1, af1, none⟩ :: ⟨some d, .call ⟨.builtin .append, #[x, .tmp d1], #[t, t]⟩, ty, p, af, none⟩ :: rest) L R := by
  have hpos : Nat.beq (1 * te.sz) 0 = false := by
    have : 0 < te.sz := Nat.le_of_ble_eq_true hsz
    rw [Nat.one_mul]
    cases h : te.sz with
    | zero => omega
    | succ n => rfl
  refine g_lit (vs := [u]) (cs := cs) ht hte (by simp [evs, hy]) ?_ hsmall hpos hN1 (fun g => ?_)
  · have h := fill_all te.z.cells hz [u] (fun v hv => by
      simp only [List.mem_singleton] at hv; subst hv; rw [hf]; exact hl)
    rw [show ([u].map (·.cells.toList)).flatten = cs from by simp [hf]] at h
    exact h
  refine g_app (i + 1) (v := v) (c := 1) (yA := some ⟨g, 0, none⟩) (by simpa using hR) ?_ (lk_hd d1 _ L) ht hte hsz hz hown (m := 1) (news := cs) (by simp [hl]) (fun w hE j c hj => ⟨_, rfl, ?_⟩) h1 hmax hbytes hN (fun v' A' ho => ?_)
  · cases x with
    | tmp t' =>
      show lk ((d1, _) :: L) t' = _
      simp only [lk]
      rw [show Nat.beq d1 t' = false from hd]
      exact hx
    | const _ => exact hx
    | global _ => exact hx
    | func _ => exact hx
  · have hb := hp_cell (i := 0) hE rfl
    rw [addr_add]
    simp only [World.cell?, hb, Nat.zero_add]
    simpa using hj
  · exact g_heap (fun w H => hp_tail (by simpa using H)) (k v' A' g ho)

/-- make([]T, n, c). -/
theorem run_mk {P : Program} {t e : TypeId} {z : Value} {s b : Nat} {te : Ti} (ht : tiOf P t = some ⟨.slice e, z, s, b⟩) (hte : tiOf P e = some te) (k1 k2 : IntKind) (n c : Nat) (hnc : n ≤ c) (hb : te.by' * c ≤ 281474976710656) (hc : c ≤ 9223372036854775807) (w : World) :
    (Instr.makeSlice t (.int k1 n) (.int k2 c)).run P w = .ok (.slice (some ⟨w.heap.size, 0, none⟩) n c) (w.alloc (.cells (madeCells te.z.cells (c * te.sz)) e)) := by
  obtain ⟨d, i, hd, hi, hk, hzz, hs, hb'⟩ := tiOf_spec hte
  have := run_make (P := P) w t e i te.z (tk_slice ht) hi hzz k1 k2 n c (Int.natCast_nonneg n) (Int.ofNat_le.2 hnc) (by rw [hb']; have h := Int.ofNat_le.2 hb; rw [Int.natCast_mul] at h; exact h) (Int.ofNat_le.2 hc)
  rw [hs] at this
  simp only [Int.toNat_natCast] at this
  exact this

theorem g_make {e : TypeId} {z : Value} {s b : Nat} {te : Ti} {k1 k2 : IntKind} {n c : Nat} (hx : ev L x = some (.int k1 n)) (hy : ev L y = some (.int k2 c)) (ht : tl X.s.tab t = some ⟨.slice e, z, s, b⟩) (hte : tl X.s.tab e = some te)
    (hz : te.z.cells.size = te.sz) (hnc : n ≤ c) (hb : te.by' * c ≤ 281474976710656) (hc : c ≤ 9223372036854775807) (hN : Nat.blt d X.N = true)
    (k : ∀ g, G X ops Q rest ((d, .slice (some ⟨g, 0, none⟩) n c) :: L) ([(g, .cells ⟨rep c te.z.cells.toList⟩ e (0, 0))] :: R)) :
    G X ops Q (⟨some d, .makeSlice t x y, ty, p, af, none⟩ :: rest) L R :=
  g_run (Y := Nat) (fun g => .slice (some ⟨g, 0, none⟩) n c) (fun g => [(g, .cells ⟨rep c te.z.cells.toList⟩ e (0, 0))] :: R) (fun _ => True) rfl rfl hN (by intro c h; cases h)
    (fun a w ha hE => by
      have hr := run_mk (X.s.ok.at ht) (X.s.ok.at hte) k1 k2 n c hnc hb hc w
      have e1 : madeCells te.z.cells (c * te.sz) = ⟨rep c te.z.cells.toList⟩ := by
        apply Array.ext'
        show (madeCells te.z.cells (c * te.sz)).toList = rep c te.z.cells.toList
        rw [← zeros_rep, hz]; simp only [madeCells, hz]
      rw [e1] at hr
      refine ⟨w.heap.size, _, ?_, hp_alloc hE _, trivial⟩
      simp only [execOp]
      rw [ha.kn.ev hx, ha.kn.ev hy, Sem.run_bind, hr]; rfl) (fun g _ => k g)

/-- s[l:]. -/
theorem p_lo {e : TypeId} {z : Value} {s b : Nat} {te : Ti} {ik : IntKind} {A : Option Addr} {n c : Nat} {l : Nat} (hx : ev L x = some (.slice A n c)) (hy : ev L y = some (.int ik l)) (ht : tl X.s.tab t = some ⟨.slice e, z, s, b⟩) (hte : tl X.s.tab e = some te)
    (hl : l ≤ n) : PR X.s.P L (⟨some d, .slice t x (some y) none none, ty, p, af, none⟩ : Oper) (.slice (if c = l then A else A.map (·.add (l * te.sz))) (n - l) (c - l)) :=
  fun ρ w hv => by
    have hu := tk_slice (X.s.ok.at ht)
    have h1 : (0 : Int) ≤ l ∧ (l : Int) ≤ n := by omega
    simp only [execOp, Option.map, hv x _ hx, hv y _ hy]
    simp [Instr.sliceAt, Instr.slice, run_underlying hu, Instr.sliceBounds, Instr.sliceBound, asIntOf, h1, run_sizeOf (X.s.ok.at hte), hl]
    cases A <;> rfl
/-! ### A test -/
theorem gc_cond_t {c : Operand} {a b : Code} (hc : ev L c = some (.bool true)) (h : GC X a Q L R) : GC X (.cond c a b) Q L R :=
  gc_cond hc (fun _ => h) (fun h => by cases h)
theorem gc_cond_f {c : Operand} {a b : Code} (hc : ev L c = some (.bool false)) (h : GC X b Q L R) : GC X (.cond c a b) Q L R :=
  gc_cond hc (fun h => by cases h) (fun _ => h)
theorem ok_put {X : Cx} {a : Act} {L : LT} (ha : Ok X a L) {t : Nat} {v : Value} (hv : lk L t = some v) : Ok X a ((t, v) :: L) := by
  refine ⟨ha.size, ha.defers, fun i u hi => ?_⟩
  simp only [lk] at hi
  by_cases hj : Nat.beq t i = true
  · rw [hj] at hi
    have := Nat.eq_of_beq_eq_true hj
    subst this
    exact ha.kn _ _ (by rw [hv]; exact hi)
  · simp only [Bool.not_eq_true] at hj
    rw [hj] at hi
    exact ha.kn _ _ hi
/-- It parts; the slot then holds what is known. -/
theorem gc_condC {t : Tmp} {b : Bool} {x y : Code} (hc : lk L t = some (.bool b)) (ht : b = true → GC X x Q ((t, .bool true) :: L) R) (hf : b = false → GC X y Q ((t, .bool false) :: L) R) : GC X (.cond (.tmp t) x y) Q L R :=
  gc_cond hc (fun h a w ha hE => ht h a w (ok_put ha (by rw [hc, h])) hE) (fun h a w ha hE => hf h a w (ok_put ha (by rw [hc, h])) hE)
/-- A slot's value in other words. -/
theorem g_eq (t : Nat) {u u' : Value} (h : lk L t = some u) (e : u = u') (k : G X ops Q rest ((t, u') :: L) R) : G X ops Q rest L R :=
  fun a w ha hE => k a w (ok_put ha (by rw [h, e])) hE
theorem gc_eq {c : Code} (t : Nat) {u u' : Value} (h : lk L t = some u) (e : u = u') (k : GC X c Q ((t, u') :: L) R) : GC X c Q L R :=
  fun a w ha hE => k a w (ok_put ha (by rw [h, e])) hE

/-! ### Elements -/
/-- Old memory holds a row. -/
def Rd {α : Type} (h : Nat → Option Obj) (f : α → List Value) (sz : Nat) (A : Option Addr) (l : List α) : Prop :=
  ∀ i x, l[i]? = some x → ∃ b o, A = some ⟨b, o, none⟩ ∧ ∀ j u, (f x)[j]? = some u → cellAt h b (o + i * sz + j) = some u
theorem Rd.le {α : Type} {h1 h2 : Nat → Option Obj} (H : Hle h1 h2) {f : α → List Value} {sz : Nat} {A : Option Addr} {l : List α} (h : Rd h1 f sz A l) : Rd h2 f sz A l := fun i x hx => by
  obtain ⟨b, o, hA, hc⟩ := h i x hx
  exact ⟨b, o, hA, fun j u hj => H.cell (hc j u hj)⟩

/-- x[y], x of old memory: two operations. -/
theorem g_at {α : Type} {d1 : Nat} {t2 ty1 : TypeId} {p1 : String} {af1 : Array Edge} {e : TypeId} {z : Value} {s b : Nat} {te : Ti} {ik : IntKind} {i : Int} {A : Option Addr} {n c : Nat} {f : α → List Value} {l : List α} {u : α}
    (hx : ev L x = some (.slice A n c)) (hy : ev L y = some (.int ik i)) (ht : tl X.s.tab t = some ⟨.slice e, z, s, b⟩) (hte : tl X.s.tab e = some te) (he : Nat.beq t2 e = true)
    (h0 : 0 ≤ i) (h1 : i < n) (hr : Rd (Oldh X) f te.sz A l) (hl : l[i.toNat]? = some u) (hs : (f u).length = te.sz) (hv : asV te.k (f u) = some v) (hN1 : Nat.blt d1 X.N = true) (hN : Nat.blt d X.N = true)
    (k : ∀ a, G X ops Q rest ((d, v) :: (d1, .pointer (some a)) :: L) R) :
    G X ops Q (⟨some d1, .indexAddr t x y, ty1, p1, af1, none⟩ :: ⟨some d, .load t2 (.tmp d1), ty, p, af, none⟩ :: rest) L R := by
  obtain rfl := Nat.eq_of_beq_eq_true he
  obtain ⟨bx, o, rfl, hc⟩ := hr _ _ hl
  refine g_ix hx hy ht hte h0 h1 hN1 ?_
  exact g_ldO (lk_hd d1 _ L) hte hs hv hc hN (k _)

/-- A store at a place that is known to lie within. -/
theorem g_stW (i : Nat) {ti : Ti} {b o : Nat} {l : List Value} {e : TypeId} (hR : R[i]? = some [(b, .cells ⟨l⟩ e (0, 0))]) (hx : ev L x = some (.pointer (some ⟨b, o, none⟩))) (hy : ev L y = some v) (ht : tl X.s.tab t = some ti)
    (hl : v.cells.size = ti.sz) (hlen : o + ti.sz ≤ l.length) (hv : (v.cells.toList.all (·.oneCell')) = true)
    (k : G X ops Q rest L (R.set i [(b, .cells ⟨putC l o v.cells.toList⟩ e (0, 0))])) :
    G X ops Q (⟨none, .store t x y, ty, p, af, none⟩ :: rest) L R :=
  g_st i hR hx hy ht hl (Nat.ble_eq_true_of_le hlen) hv k

/-! ### Slices of one's own as lists -/
theorem flat_get {α : Type} {f : α → List Value} {sz : Nat} (hf : ∀ x, (f x).length = sz) : ∀ (l : List α) (i : Nat) (x : α), l[i]? = some x → ∀ j u, (f x)[j]? = some u → (l.flatMap f)[i * sz + j]? = some u
  | [], i, x, h, _, _, _ => by simp at h
  | a :: l, 0, x, h, j, u, hu => by
    simp at h; subst h
    simp only [List.flatMap_cons, Nat.zero_mul, Nat.zero_add]
    rw [List.getElem?_append_left (List.getElem?_eq_some_iff.1 hu).1]; exact hu
  | a :: l, i + 1, x, h, j, u, hu => by
    simp only [List.getElem?_cons_succ] at h
    simp only [List.flatMap_cons]
    rw [List.getElem?_append_right (by rw [hf a, Nat.add_mul]; omega), hf a, show (i + 1) * sz + j - sz = i * sz + j from by rw [Nat.add_mul]; omega]
    exact flat_get hf l i x h j u hu

def OwnL {α : Type} (e : TypeId) (sz : Nat) (f : α → List Value) (v : Value) (l : List α) (A : HL) : Prop := Own e sz v l.length (l.flatMap f) A
theorem OwnL.nil {α : Type} (e : TypeId) (sz : Nat) (f : α → List Value) : OwnL e sz f (.slice none 0 0) [] [] := Own.nil e sz

/-- append(s, x), as lists. -/
theorem g_app1L (i : Nat) {α : Type} {d1 : Nat} {ty1 : TypeId} {p1 : String} {af1 : Array Edge} {A : HL} {e : TypeId} {z : Value} {s b : Nat} {te : Ti} {u : Value} {f : α → List Value} {l : List α} {q : α}
    (hR : R[i]? = some A) (hx : ev L x = some v) (hd : (match x with | .tmp t => Nat.beq d1 t | _ => false) = false) (hy : ev L y = some u) (ht : tl X.s.tab t = some ⟨.slice e, z, s, b⟩) (hte : tl X.s.tab e = some te) (hsz : Nat.blt 0 te.sz = true) (hz : te.z.cells.size = te.sz)
    (hfl : u.cells = ⟨f q⟩) (hsmall : Nat.ble (1 * te.sz) (2 ^ 24) = true)
    (hl : (f q).length = te.sz) (h1 : ((f q).all (·.oneCell')) = true)
    (hown : OwnL e te.sz f v l A) (hmax : l.length + 1 ≤ maxLen) (hbytes : (l.length + 1) * te.by' ≤ 140737488355328) (hN1 : Nat.blt d1 X.N = true) (hN : Nat.blt d X.N = true)
    (k : ∀ v' A' g, OwnL e te.sz f v' (l ++ [q]) A' → G X ops Q rest ((d, v') :: (d1, .slice (some ⟨g, 0, none⟩) 1 1) :: L) (R.set i A')) :
    G X ops Q (⟨some d1, .buildSlice t 1 #[(0, y)], ty1, p1, af1, none⟩ :: ⟨some d, .call ⟨.builtin .append, #[x, .tmp d1], #[t, t]⟩, ty, p, af, none⟩ :: rest) L R :=
  g_app1 i hR hx hd hy ht hte hsz hz hfl hsmall hl (List.all_eq_true.1 h1) hown hmax hbytes hN1 hN (fun v' A' g ho => k v' A' g (by unfold OwnL; simpa using ho))

/-- append(s, more...), more read of memory. -/
theorem g_appL (i : Nat) {α : Type} {A : HL} {e : TypeId} {z : Value} {s b : Nat} {te : Ti} {f : α → List Value} {l m : List α} {yA : Option Addr} {c : Nat}
    (hR : R[i]? = some A) (hx : ev L x = some v) (hy : ev L y = some (.slice yA m.length c)) (ht : tl X.s.tab t = some ⟨.slice e, z, s, b⟩) (hte : tl X.s.tab e = some te) (hsz : Nat.blt 0 te.sz = true) (hz : te.z.cells.size = te.sz)
    (hown : OwnL e te.sz f v l A) (hf : ∀ x, (f x).length = te.sz) (hn : ∀ w, Hp X w R → Rd (hw w) f te.sz yA m) (h1 : ∀ q, ((f q).all (·.oneCell')) = true)
    (hmax : l.length + m.length ≤ maxLen) (hbytes : (l.length + m.length) * te.by' ≤ 140737488355328) (hN : Nat.blt d X.N = true)
    (k : ∀ v' A', OwnL e te.sz f v' (l ++ m) A' → G X ops Q rest ((d, v') :: L) (R.set i A')) :
    G X ops Q (⟨some d, .call ⟨.builtin .append, #[x, y], #[t, t]⟩, ty, p, af, none⟩ :: rest) L R := by
  have hpos : 0 < te.sz := Nat.le_of_ble_eq_true hsz
  have hlen : ∀ m : List α, (m.flatMap f).length = m.length * te.sz := fun m => by
    induction m with
    | nil => simp
    | cons a m ih => simp only [List.flatMap_cons, List.length_append, ih, hf a, List.length_cons, Nat.add_mul]; omega
  refine g_app i hR hx hy ht hte hsz hz hown (news := m.flatMap f) (hlen m) (fun w hE j u hj => ?_) (fun u hu => ?_) hmax hbytes hN (fun v' A' ho => k v' A' (by unfold OwnL; simpa using ho))
  · have hjl := (List.getElem?_eq_some_iff.1 hj).1
    rw [hlen] at hjl
    have hdiv : j / te.sz < m.length := Nat.div_lt_of_lt_mul (by rw [Nat.mul_comm]; exact hjl)
    obtain ⟨bb, o, hA, hc⟩ := hn w hE (j / te.sz) _ (List.getElem?_eq_getElem hdiv)
    refine ⟨_, hA, ?_⟩
    rw [addr_add, ← cellAt_hw]
    have hmod : j % te.sz < (f m[j / te.sz]).length := by rw [hf]; exact Nat.mod_lt _ hpos
    have hj2 := flat_get hf m _ _ (List.getElem?_eq_getElem hdiv) (j % te.sz) _ (List.getElem?_eq_getElem hmod)
    have e1 : j / te.sz * te.sz + j % te.sz = j := by rw [Nat.mul_comm]; exact Nat.div_add_mod j te.sz
    rw [e1, hj] at hj2
    have h3 := hc (j % te.sz) u (by rw [List.getElem?_eq_getElem hmod]; exact hj2.symm)
    rw [show o + j / te.sz * te.sz + j % te.sz = o + j from by omega] at h3
    exact h3
  · obtain ⟨q, hq, hu⟩ := List.mem_flatMap.1 hu
    exact List.all_eq_true.1 (h1 q) u hu

theorem putC_get : ∀ (vs l : List Value) (o k : Nat), o + vs.length ≤ l.length → (putC l o vs)[k]? = if o ≤ k ∧ k < o + vs.length then vs[k - o]? else l[k]?
  | [], l, o, k, h => by simp [putC]; intro h1 h2; omega
  | v :: vs, l, o, k, h => by
    simp only [List.length_cons] at h
    simp only [putC]
    rw [putC_get vs (l.set o v) (o + 1) k (by simp; omega)]
    by_cases h1 : o + 1 ≤ k ∧ k < o + 1 + vs.length
    · rw [if_pos h1, if_pos (by simp only [List.length_cons]; omega)]
      rw [show k - o = (k - (o + 1)) + 1 from by omega]; simp
    · rw [if_neg h1]
      by_cases h2 : k = o
      · subst h2
        rw [if_pos (by simp only [List.length_cons]; omega)]
        simp only [Nat.sub_self, List.getElem?_cons_zero]
        rw [List.getElem?_set_self (by omega)]
      · rw [if_neg (by simp only [List.length_cons]; omega), List.getElem?_set_ne (Ne.symm h2)]
theorem putC_len : ∀ (vs l : List Value) (o : Nat), (putC l o vs).length = l.length
  | [], l, o => rfl
  | v :: vs, l, o => by simp only [putC]; rw [putC_len]; simp

theorem flat_len {α : Type} {f : α → List Value} {sz : Nat} (hf : ∀ x, (f x).length = sz) (l : List α) : (l.flatMap f).length = l.length * sz := by
  induction l with
  | nil => simp
  | cons a l ih => simp only [List.flatMap_cons, List.length_append, ih, hf a, List.length_cons, Nat.add_mul]; omega

theorem putC_flat {α : Type} {f : α → List Value} {sz : Nat} (hf : ∀ x, (f x).length = sz) : ∀ (l : List α) (i : Nat) (q : α) (rest : List Value), i < l.length → putC (l.flatMap f ++ rest) (i * sz) (f q) = (l.set i q).flatMap f ++ rest := by
  intro l i q rest hi
  apply List.ext_getElem?
  intro k
  have hl1 := flat_len hf l
  have hl2 := flat_len hf (l.set i q)
  have hb : i * sz + sz ≤ l.length * sz := by
    have : (i + 1) * sz ≤ l.length * sz := Nat.mul_le_mul_right _ hi
    rw [Nat.add_mul] at this; omega
  rw [putC_get _ _ _ _ (by rw [List.length_append, hl1, hf q]; omega), hf q]
  simp only [List.length_set] at hl2
  by_cases h1 : i * sz ≤ k ∧ k < i * sz + sz
  · rw [if_pos h1]
    have hk : k - i * sz < (f q).length := by rw [hf]; omega
    have h3 := flat_get hf (l.set i q) i q (by rw [List.getElem?_set_self hi]) (k - i * sz) _ (List.getElem?_eq_getElem hk)
    rw [show i * sz + (k - i * sz) = k from by omega] at h3
    rw [List.getElem?_append_left (by rw [hl2]; omega), h3, List.getElem?_eq_getElem hk]
  · rw [if_neg h1]
    by_cases h2 : k < l.length * sz
    · have hsz : 0 < sz := by
        rcases Nat.eq_zero_or_pos sz with h | h
        · subst h; simp at h2
        · exact h
      have hd : k / sz < l.length := Nat.div_lt_of_lt_mul (by rw [Nat.mul_comm]; exact h2)
      have hne : k / sz ≠ i := by
        rintro rfl
        apply h1
        have h5 := Nat.div_add_mod k sz
        have h6 := Nat.mod_lt k hsz
        rw [Nat.mul_comm] at h5
        omega
      have hm : k % sz < (f l[k / sz]).length := by rw [hf]; exact Nat.mod_lt _ hsz
      have e1 : k / sz * sz + k % sz = k := by rw [Nat.mul_comm]; exact Nat.div_add_mod k sz
      have h3 := flat_get hf l _ _ (List.getElem?_eq_getElem hd) (k % sz) _ (List.getElem?_eq_getElem hm)
      have h4 := flat_get hf (l.set i q) (k / sz) l[k / sz] (by rw [List.getElem?_set_ne (Ne.symm hne), List.getElem?_eq_getElem hd]) (k % sz) _ (List.getElem?_eq_getElem hm)
      rw [e1] at h3 h4
      rw [List.getElem?_append_left (by rw [hl1]; omega), List.getElem?_append_left (by rw [hl2]; omega), h3, h4]
    · rw [List.getElem?_append_right (by rw [hl1]; omega), List.getElem?_append_right (by rw [hl2]; omega), hl1, hl2]

/-- x[y] = q, x number j of what one owns. -/
theorem g_setL (j : Nat) {α : Type} {d1 : Nat} {t2 ty1 : TypeId} {p1 : String} {af1 : Array Edge} {e : TypeId} {z u : Value} {s b : Nat} {te : Ti} {ik : IntKind} {i : Int} {A : HL} {f : α → List Value} {l : List α} {q : α} {r : Operand} {tyS : TypeId} {pS : String} {afS : Array Edge}
    (hR : R[j]? = some A) (hx : ev L x = some v) (ho : OwnL e te.sz f v l A) (hf : ∀ x, (f x).length = te.sz) (hy : ev L y = some (.int ik i)) (ht : tl X.s.tab t = some ⟨.slice e, z, s, b⟩) (hte : tl X.s.tab e = some te) (he : Nat.beq t2 e = true)
    (h0 : 0 ≤ i) (hl : i < l.length) (hr : ev ((d1, .pointer (some ⟨0, 0, none⟩)) :: L) r = some u) (hrd : (match r with | .tmp t => Nat.beq d1 t | _ => false) = false) (hu : u.cells = ⟨f q⟩) (h1 : ((f q).all (·.oneCell')) = true) (hN1 : Nat.blt d1 X.N = true)
    (k : ∀ a A', OwnL e te.sz f v (l.set i.toNat q) A' → G X ops Q rest ((d1, .pointer (some a)) :: L) (R.set j A')) :
    G X ops Q (⟨some d1, .indexAddr t x y, ty1, p1, af1, none⟩ :: ⟨none, .store t2 (.tmp d1) r, tyS, pS, afS, none⟩ :: rest) L R := by
  obtain rfl := Nat.eq_of_beq_eq_true he
  obtain ⟨g, cap, rst, rfl, rfl, hc1, hc2, hc3⟩ := Own.pos ho (by omega)
  refine g_ix hx hy ht hte h0 hl hN1 ?_
  have hr' : ev ((d1, .pointer (some ⟨g, 0 + i.toNat * te.sz, none⟩)) :: L) r = some u := by
    cases r with
    | tmp t' =>
      simp only [ev, lk] at hr ⊢
      rw [show Nat.beq d1 t' = false from hrd] at hr ⊢
      exact hr
    | const _ => exact hr
    | global _ => exact hr
    | func _ => exact hr
  have hin : i.toNat < l.length := by omega
  have hb : i.toNat * te.sz + te.sz ≤ l.length * te.sz := by
    have : (i.toNat + 1) * te.sz ≤ l.length * te.sz := Nat.mul_le_mul_right _ hin
    rw [Nat.add_mul] at this; omega
  refine g_stW j hR (lk_hd d1 _ L) hr' hte (by rw [hu]; exact hf q) ?_ (by rw [hu]; exact h1) ?_
  · rw [List.length_append, flat_len hf l]; omega
  · have e1 : putC (l.flatMap f ++ rst) (0 + i.toNat * te.sz) u.cells.toList = (l.set i.toNat q).flatMap f ++ rst := by
      rw [hu, Nat.zero_add]; exact putC_flat hf l i.toNat q rst hin
    rw [e1]
    refine k _ _ ⟨by rw [flat_len hf], .inr ⟨g, cap, rst, by rw [List.length_set], rfl, by rw [List.length_set]; exact hc1, hc2, ?_⟩⟩
    rw [List.length_append, flat_len hf, List.length_set, ← flat_len hf l, ← List.length_append]; exact hc3
end
end Go.Wk

/- Rows of a library's contracts (Holds, putRow, grow) as memory of one's own. -/
namespace Go.Wk
open Go.Sort Go.RowKit
set_option linter.unusedVariables false
set_option linter.unusedSimpArgs false

theorem Eff.row {w : World} {g q : Nat} {c : Array Value} {e : TypeId} {fz : Nat × Nat} (h : w.heap[g]? = some (.cells c e fz)) (f : Array Value → Array Value) (os : Array Obj) :
    Eff w [(g, .cells c e fz)] (Sort.grow (Sort.mapBlock (Sort.ahead w q) g f) os) [(g, .cells (f c) e fz)] := by
  have hlt := (Array.getElem?_eq_some_iff.1 h).1
  have hs : (w.heap.modify g (Sort.onCells f)).size = w.heap.size := by simp
  refine ⟨fun b o hb => ?_, by simp [ids], fun b hb => .inl hb, fun b hb hn => ?_, ?_, rfl, rfl, rfl⟩
  · simp only [List.mem_singleton, Prod.mk.injEq] at hb
    obtain ⟨rfl, rfl⟩ := hb
    show (w.heap.modify b (Sort.onCells f) ++ os)[b]? = _
    rw [Array.getElem?_append_left (by rw [hs]; exact hlt), Array.getElem?_modify, if_pos rfl, h]; rfl
  · show (w.heap.modify g (Sort.onCells f) ++ os)[b]? = _
    have hne : g ≠ b := by intro hh; apply hn; simp [ids, hh]
    rw [Array.getElem?_append_left (by rw [hs]; exact hb), Array.getElem?_modify, if_neg hne]
  · show w.heap.size ≤ (w.heap.modify g (Sort.onCells f) ++ os).size
    simp

theorem flat_one {α : Type} (f : α → Value) (l : List α) : l.flatMap (fun x => [f x]) = l.map f := by
  induction l with
  | nil => rfl
  | cons a l ih => simp [ih]

section
variable {X : Cx} {ops : Array Oper} {Q : Post} {rest : List Oper} {L : LT} {R : RL} {d : Nat} {x y : Operand} {v : Value} {t ty : TypeId} {p : String} {af : Array Edge}
end
theorem inc_eq {k : Nat} (h : k < 4611686018427387904) : some (Value.int .i64 (IntKind.i64.wrap ((k : Int) + 1))) = some (Value.int .i64 ((k + 1 : Nat) : Int)) :=
  congrArg (fun z => some (Value.int .i64 z)) (by rw [IntKind.wrap_i64]; omega)
/-- What memory outside A holds. -/
def exc (w : World) (A : HL) : Nat → Option Obj := fun b => if b ∈ ids A then none else w.heap[b]?
theorem OwnL.rd {α : Type} {e : TypeId} {sz : Nat} {f : α → List Value} {v : Value} {l : List α} {A : HL} (hf : ∀ x, (f x).length = sz) (ho : OwnL e sz f v l A) {H : Nat → Option Obj} (hA : ∀ b o, (b, o) ∈ A → H b = some o) :
    ∃ ad cap, v = .slice ad l.length cap ∧ Rd H f sz ad l := by
  rcases ho.2 with ⟨rfl, h2, h3⟩ | ⟨g, cap, rest, rfl, rfl, h3, h4, h5⟩
  · have := List.eq_nil_of_length_eq_zero h2
    subst this
    exact ⟨none, 0, rfl, fun i x hx => by simp at hx⟩
  · refine ⟨some ⟨g, 0, none⟩, cap, rfl, fun i x hx => ⟨g, 0, rfl, fun j u hj => ?_⟩⟩
    have hg := hA g _ List.mem_cons_self
    simp only [cellAt, hg]
    have h6 := flat_get hf l i x hx j u hj
    have : (l.flatMap f ++ rest)[0 + i * sz + j]? = some u := by
      rw [Nat.zero_add, List.getElem?_append_left (List.getElem?_eq_some_iff.1 h6).1]; exact h6
    simpa using this
theorem enterA {s : Sx} {f : FuncId} {fn : Func} {c : Code} {args : List Value} {w : World} {Rp : Ending → World → Prop} (A0 : RL) {A : HL} {N : Nat} (hA : A0.flatten = A)
    (hf : s.P.funcs[f]? = some fn) (hb : fn.body = some c) (hN : fn.ntmps = N) (hlen : Nat.ble args.length N = true)
    (hE : Eff w A w A)
    (h : GC ⟨s, none, 0, N, [], w, A⟩ c (bodyPost s.P fn Rp) (zipL 0 args) A0) : Calls s.P f args.toArray w Rp := by
  subst hA; exact enter A0 hf hb hN hlen hE h
theorem hp_eff {X : Cx} {w : World} {A : HL} {R : RL} (H : Hp X w (A :: R)) : Eff w A w A :=
  Eff.start w A (fun b o hb => H.holds b o (List.mem_append_left _ hb)) (by
    have := H.nodup
    rw [List.flatten_cons, ids_append] at this
    exact (List.nodup_append.1 this).1)
theorem hp_exc {X : Cx} {w : World} {A : HL} {R : RL} (H : Hp X w (A :: R)) {b : Nat} {o : Obj} (h : (b, o) ∈ R.flatten) : exc w A b = some o := by
  unfold exc
  have hn := H.nodup
  rw [List.flatten_cons, ids_append] at hn
  rw [if_neg (fun hb => (List.nodup_append.1 hn).2.2 b hb b (mem_ids.2 ⟨o, h⟩) rfl)]
  exact H.holds b o (List.mem_append_right _ h)
theorem hp_excO {X : Cx} {w : World} {A : HL} {R : RL} (H : Hp X w (A :: R)) {b : Nat} {o : Obj} (h : Oldh X b = some o) : exc w A b = some o := by
  unfold exc
  rw [if_neg, ← old_hw H h]; rfl
  intro hb
  rcases H.fresh b (by rw [List.flatten_cons, ids_append]; exact List.mem_append_left _ hb) with h1 | h1
  · unfold Oldh at h; rw [if_pos h1] at h; cases h
  · unfold Oldh at h
    split at h
    · cases h
    · exact absurd (Array.getElem?_eq_some_iff.1 h).1 (by omega)
/-- A call that is handed the part of R that is ahead. -/
theorem g_callA {X : Cx} {ops : Array Oper} {Q : Post} {rest : List Oper} {L : LT} {R : RL} {d : Nat} {ty : TypeId} {p : String} {af : Array Edge}
    {g : FuncId} {f : Operand} {f1 cp : Array Value} {xs : Array Operand} {ats : Array TypeId} {vs gs : List Value} {Y : Type} {vf : Y → Value} {post : Y → Prop} {A' : Y → RL} {A : HL} {F : RL}
    (hR : R = A :: F)
    (hf : ev L f = some (.func (.func g) f1 cp)) (hg : Cl X.s.P g) (hxs : evs L xs.toList = some vs) (has : f1.toList ++ vs ++ cp.toList = gs)
    (hc : ∀ w, Hp X w (A :: F) → Sp X.s.P g gs w A vf A' post)
    (hN : Nat.blt d X.N = true) (k : ∀ y, post y → G X ops Q rest ((d, vf y) :: L) (A' y ++ F)) :
    G X ops Q (⟨some d, .call ⟨.value f, xs, ats⟩, ty, p, af, none⟩ :: rest) L R :=
  g_callG hf hg hxs has (fun w hE => (hc w (hR ▸ hE)).mono (fun e w' ⟨y, hp, he, E⟩ => ⟨y, hp, he, by
    unfold Hp at hE
    rw [hR, List.flatten_cons] at hE
    have := Eff.seq hE E
    unfold Hp
    rw [List.flatten_append]; exact this⟩)) hN k
end Go.Wk

/- DERIVED: THE SHELF's CONTRACTS AT THIS DUMP, IN PLAIN WORDS (tools/lay-plain.mjs out of 'TryShelf.lean', which tools/lay-shelf.mjs wrote): THE SAME DECLARATIONS UNDER THE SAME NAMES: 'import', 'namespace', 'open', 'def', 'theorem' AND NOTHING ELSE: no command of the shelf's: FOR A HAND-IN. Each laying: the table of numbers ('.._ren') and one theorem, a field a fact of the dump's own or the kernel's comparison; each contract: ONE APPLICATION. -/
namespace Go.Proofs
open Go.Shelf
end Go.Proofs

/- Maps of one's own: made, asked, written, gone through. -/
namespace Go.Wk
set_option linter.unusedVariables false
set_option linter.unusedSimpArgs false
set_option linter.unusedSectionVars false

section
variable {κ : Type} [DecidableEq κ]

def ix : List κ → κ → Option Nat
  | [], _ => none
  | a :: r, k => if a = k then some 0 else (ix r k).map (· + 1)

theorem ix_none {l : List κ} {k : κ} : ix l k = none ↔ k ∉ l := by
  induction l with
  | nil => simp [ix]
  | cons a r ih =>
    unfold ix
    split
    · rename_i h; simp [h]
    · rename_i h; simp [ih, Ne.symm h]
theorem ix_some {l : List κ} {k : κ} {i : Nat} (h : ix l k = some i) : l[i]? = some k := by
  induction l generalizing i with
  | nil => simp [ix] at h
  | cons a r ih =>
    unfold ix at h
    split at h
    · rename_i ha; simp at h; subst h; simp [ha]
    · simp only [Option.map_eq_some_iff] at h
      obtain ⟨j, hj, rfl⟩ := h
      simpa using ih hj

/-- What a map holds. -/
structure MapIs (kf : κ → Value) (kv : List (κ × Value)) (es : Array MapEntry) (clock : Nat) : Prop where
  ents : es.toList.map (fun e => (e.key, e.val)) = kv.map (fun p => (kf p.1, p.2))
  nodup : (kv.map (·.1)).Nodup
  bn : (es.toList.map (·.born)).Nodup
  lt : ∀ e, e ∈ es.toList → e.born < clock

def ml : List (κ × Value) → κ → Option Value
  | [], _ => none
  | (a, v) :: r, k => if a = k then some v else ml r k
def mput : List (κ × Value) → κ → Value → List (κ × Value)
  | [], k, v => [(k, v)]
  | (a, u) :: r, k, v => if a = k then (a, v) :: r else (a, u) :: mput r k v

theorem ml_mput (l : List (κ × Value)) (k k' : κ) (v : Value) : ml (mput l k v) k' = if k' = k then some v else ml l k' := by
  induction l with
  | nil => simp only [mput, ml]; by_cases h : k = k' <;> simp [h, eq_comm]
  | cons p r ih =>
    obtain ⟨a, u⟩ := p
    simp only [mput]
    split
    · rename_i h; subst h
      simp only [ml]
      by_cases h : a = k'
      · simp [h]
      · simp only [h, if_false, Ne.symm h]
    · rename_i h
      simp only [ml, ih]
      by_cases h1 : a = k'
      · subst h1; simp [h]
      · simp [h1]
theorem keys_mput (l : List (κ × Value)) (k : κ) (v : Value) : (mput l k v).map (·.1) = if k ∈ l.map (·.1) then l.map (·.1) else l.map (·.1) ++ [k] := by
  induction l with
  | nil => simp [mput]
  | cons p r ih =>
    obtain ⟨a, u⟩ := p
    simp only [mput]
    split
    · rename_i h; subst h; simp
    · rename_i h
      simp only [List.map_cons, ih]
      split
      · rename_i h2; simp [h2]
      · rename_i h2; simp [h2, Ne.symm h]
theorem mem_keys_mput (l : List (κ × Value)) (k k' : κ) (v : Value) : k' ∈ (mput l k v).map (·.1) ↔ k' = k ∨ k' ∈ l.map (·.1) := by
  rw [keys_mput]
  split
  · rename_i h
    constructor
    · exact .inr
    · rintro (rfl | h') <;> assumption
  · simp [or_comm]
theorem nodup_mput {l : List (κ × Value)} (h : (l.map (·.1)).Nodup) (k : κ) (v : Value) : ((mput l k v).map (·.1)).Nodup := by
  rw [keys_mput]
  split
  · exact h
  · rename_i hk
    rw [List.nodup_append]
    exact ⟨h, by simp, fun a ha b hb => by simp at hb; subst hb; rintro rfl; exact hk ha⟩
theorem ml_none {l : List (κ × Value)} {k : κ} : ml l k = none ↔ k ∉ l.map (·.1) := by
  induction l with
  | nil => simp [ml]
  | cons p r ih =>
    obtain ⟨a, u⟩ := p
    simp only [ml]
    split
    · rename_i h; simp [h]
    · rename_i h; simp only [ih, List.map_cons, List.mem_cons, Ne.symm h, false_or]
/-- How keys of a type are found. -/
structure KL (P : Program) (kt : TypeId) (kf : κ → Value) : Prop where
  check : ∀ b k w, (Instr.checkKey b 10000 kt (kf k)).run P w = .ok () w
  find : ∀ k (l : List MapEntry) (ks : List κ) w, l.map (·.key) = ks.map kf → (Instr.findKey kt (kf k) l).run P w = .ok ((ix ks k).bind fun i => (l[i]?).map fun e => (i, e.val)) w
  stay : ∀ k w, (Instr.keyThatStays (kf k) (kf k)).run P w = .ok (kf k) w

omit [DecidableEq κ] in
theorem findNow_eq {kind : TypeDesc} {kf : κ → Value} [DecidableEq κ] (hs : ∀ a b, Instr.sameNow kind (kf a) (kf b) = some (decide (a = b))) (k : κ) : ∀ (l : List MapEntry) (ks : List κ) (i : Nat), l.map (·.key) = ks.map kf →
    Instr.findNow kind (kf k) l i = some ((ix ks k).bind fun j => (l[j]?).map fun e => (i + j, e.val))
  | [], ks, i, h => by
    have : ks = [] := by simpa using h.symm
    subst this
    simp [Instr.findNow, ix]
  | e :: l, ks, i, h => by
    cases ks with
    | nil => simp at h
    | cons a ks =>
      simp only [List.map_cons, List.cons.injEq] at h
      unfold Instr.findNow
      rw [h.1, hs]
      by_cases hk : k = a
      · subst hk; simp [ix]
      · simp only [hk, decide_false]
        rw [findNow_eq hs k l ks (i + 1) h.2]
        simp only [ix, Ne.symm hk, if_false, Option.bind_map]
        congr 1
        cases ix ks k with
        | none => rfl
        | some j => simp [show i + 1 + j = i + (j + 1) from by omega]
end

theorem kl_string {P : Program} {kt : TypeId} {z : Value} {s b : Nat} (ht : tiOf P kt = some ⟨.string, z, s, b⟩) : KL P kt Value.string where
  check b k w := by
    have h : ∀ n, (Instr.checkKey b (n + 1) kt (Value.string k)).run P w = .ok () w := fun n => by
      simp only [Instr.checkKey, Sem.run_bind, run_underlying (tk_string ht), Result.andThen_ok, run_pure']
    exact h 9999
  find k l ks w h := by
    have hs : ∀ a b : ByteArray, Instr.sameNow .string (.string a) (.string b) = some (decide (a = b)) := fun a b => by
      simp only [Instr.sameNow, Option.some.injEq]
      by_cases hab : a = b
      · rw [decide_eq_true hab]; exact (Go.MapKept.bytes_beq a b).2 hab
      · rw [decide_eq_false hab, Bool.eq_false_iff]; exact fun h => hab ((Go.MapKept.bytes_beq a b).1 h)
    simp only [Instr.findKey, Sem.run_bind, run_underlying (tk_string ht), Result.andThen_ok, findNow_eq hs k l ks 0 h, run_pure', Nat.zero_add]
  stay k w := by
    have h : Instr.sameBits 10000 (Value.string k) (Value.string k) = true := by
      have h : ∀ n, Instr.sameBits n (Value.string k) (Value.string k) = true := fun n => by
        cases n <;> (simp only [Instr.sameBits]; exact (Go.MapKept.bytes_beq k k).2 rfl)
      exact h 10000
    simp only [Instr.keyThatStays, h, if_true, run_pure']

theorem run_getObj {P : Program} {w : World} {r : Nat} {o : Obj} (h : w.heap[r]? = some o) (hc : ∀ c e f, o ≠ .cells c e f) : (getObj r).run P w = .ok o w := by
  cases o <;> first | exact absurd rfl (hc _ _ _) | (simp [getObj, Sem.run, h]; done)
theorem run_setObj {P : Program} {w : World} {r : Nat} {o : Obj} (h : w.heap[r]? = some o) (hc : ∀ c e f, o ≠ .cells c e f) (o' : Obj) : (setObj r o').run P w = .ok () { w with heap := w.heap.setIfInBounds r o' } := by
  cases o <;> first | exact absurd rfl (hc _ _ _) | (simp [setObj, Sem.run, h]; done)

section
variable {κ : Type} [DecidableEq κ] {kf : κ → Value} {kv : List (κ × Value)} {es : Array MapEntry} {clock : Nat}

theorem MapIs.keys (M : MapIs kf kv es clock) : es.toList.map (·.key) = (kv.map (·.1)).map kf := by
  have := congrArg (List.map Prod.fst) M.ents
  simp only [List.map_map] at this ⊢
  exact this
theorem MapIs.vals (M : MapIs kf kv es clock) : es.toList.map (·.val) = kv.map (·.2) := by
  have := congrArg (List.map Prod.snd) M.ents
  simp only [List.map_map] at this
  exact this

theorem ix_ml (l : List (κ × Value)) (k : κ) : (ix (l.map (·.1)) k).bind (fun i => (l.map (·.2))[i]?) = ml l k := by
  induction l with
  | nil => rfl
  | cons p r ih =>
    obtain ⟨a, v⟩ := p
    simp only [List.map_cons, ix, ml]
    split
    · simp
    · rw [← ih]
      simp only [Option.bind_map]
      rfl

theorem MapIs.find_val {P : Program} {kt : TypeId} (K : KL P kt kf) (M : MapIs kf kv es clock) (k : κ) (w : World) :
    ∃ r, (Instr.findKey kt (kf k) es.toList).run P w = .ok r w ∧ r.map (·.2) = ml kv k ∧ (∀ i v, r = some (i, v) → ix (kv.map (·.1)) k = some i ∧ i < es.toList.length) ∧ (r = none → ix (kv.map (·.1)) k = none) := by
  refine ⟨_, K.find k es.toList (kv.map (·.1)) w M.keys, ?_, ?_, ?_⟩
  · rw [← ix_ml kv k, ← M.vals]
    cases ix (kv.map (·.1)) k with
    | none => rfl
    | some i =>
      simp only [Option.bind_some, List.getElem?_map, Option.map_map]
      rfl
  · intro i v h
    cases h1 : ix (kv.map (·.1)) k with
    | none => rw [h1] at h; simp at h
    | some j =>
      rw [h1] at h
      simp only [Option.bind_some, Option.map_eq_some_iff, Prod.mk.injEq] at h
      obtain ⟨e, he, rfl, _⟩ := h
      exact ⟨rfl, (List.getElem?_eq_some_iff.1 he).1⟩
  · intro h
    cases h1 : ix (kv.map (·.1)) k with
    | none => rfl
    | some j =>
      rw [h1] at h
      have hj := ix_some h1
      have hl : es.toList.length = kv.length := by simpa using congrArg List.length M.ents
      have hlt : j < kv.length := by simpa using (List.getElem?_eq_some_iff.1 hj).1
      simp only [Option.bind_some, List.getElem?_eq_getElem (show j < es.toList.length from by omega), Option.map_some] at h
      cases h

theorem run_lookup {P : Program} {t kt et : TypeId} {z : Value} {s b : Nat} {te : Ti} (ht : tiOf P t = some ⟨.map kt et, z, s, b⟩) (hte : tiOf P et = some te) (K : KL P kt kf) (M : MapIs kf kv es clock) {r : Nat} {w : World} (hr : w.heap[r]? = some (.map es clock)) (k : κ) (ok : Bool) :
    (Instr.lookup t (.map (some r)) (kf k) ok).run P w = .ok (if ok then .tuple #[(ml kv k).getD te.z, .bool (ml kv k).isSome] else (ml kv k).getD te.z) w := by
  have hg := run_getObj (P := P) hr (by intro c e f h; cases h)
  obtain ⟨q, hq, hv, _, _⟩ := M.find_val K k w
  simp only [Instr.lookup, Sem.run_bind, run_underlying (tk_map ht), Result.andThen_ok, hg, run_pure', K.check, hq]
  cases q with
  | none =>
    simp only [Option.map_none] at hv
    rw [← hv]
    cases ok <;> simp [run_zeroValue hte, run_pure']
  | some x =>
    obtain ⟨i, v⟩ := x
    simp only [Option.map_some] at hv
    rw [← hv]
    cases ok <;> simp [run_pure']

theorem run_mapUpdate {P : Program} {t kt et : TypeId} {z : Value} {s b : Nat} (ht : tiOf P t = some ⟨.map kt et, z, s, b⟩) (K : KL P kt kf) (M : MapIs kf kv es clock) {r : Nat} {w : World} (hr : w.heap[r]? = some (.map es clock)) (k : κ) (v : Value) :
    ∃ es' clock', (Instr.mapUpdate t (.map (some r)) (kf k) v).run P w = .ok () { w with heap := w.heap.setIfInBounds r (.map es' clock') } ∧ MapIs kf (mput kv k v) es' clock' := by
  have hg := run_getObj (P := P) hr (by intro c e f h; cases h)
  have hs := fun o' => run_setObj (P := P) hr (by intro c e f h; cases h) o'
  obtain ⟨q, hq, hv, h1, h2⟩ := M.find_val K k w
  cases q with
  | none =>
    have hix := h2 rfl
    have hnot := ix_none.1 hix
    refine ⟨es.push { key := kf k, val := v, born := clock }, clock + 1, ?_, ?_⟩
    · simp only [Instr.mapUpdate, Sem.run_bind, run_underlying (tk_map ht), Result.andThen_ok, hg, K.check, hq, hs]
    · have hput : mput kv k v = kv ++ [(k, v)] := by
        clear hq hv h1 h2 M hr hg hs
        induction kv with
        | nil => rfl
        | cons p l ih =>
          obtain ⟨a, u⟩ := p
          simp only [List.map_cons, List.mem_cons, not_or] at hnot
          simp only [mput, Ne.symm hnot.1, if_false, List.cons_append]
          rw [ih (ix_none.2 hnot.2) hnot.2]
      refine ⟨?_, nodup_mput M.nodup k v, ?_, ?_⟩
      · rw [hput, Array.toList_push, List.map_append, M.ents]; simp
      · rw [Array.toList_push, List.map_append, List.nodup_append]
        refine ⟨M.bn, by simp, fun a ha c hc => ?_⟩
        simp only [List.map_cons, List.map_nil, List.mem_singleton] at hc
        subst hc
        obtain ⟨e, he, rfl⟩ := List.mem_map.1 ha
        have := M.lt e he
        omega
      · intro e he
        rw [Array.toList_push] at he
        rcases List.mem_append.1 he with he | he
        · have := M.lt e he; omega
        · simp at he; subst he; exact Nat.lt_succ_self _
  | some x =>
    obtain ⟨i, u⟩ := x
    obtain ⟨hix, hlt⟩ := h1 i u rfl
    have hkey : ((es[i]?).map (·.key)).getD (kf k) = kf k := by
      have hi := ix_some hix
      have hk2 := congrArg (·[i]?) M.keys
      simp only [List.getElem?_map] at hk2 hi
      have hlt' : i < es.size := by simpa using hlt
      simp only [Array.getElem?_toList, Array.getElem?_eq_getElem hlt', Option.map_some] at hk2
      rw [Array.getElem?_eq_getElem hlt']
      simp only [Option.map_some, Option.getD_some]
      rw [hi] at hk2
      simpa using hk2
    refine ⟨es.modify i fun e => { e with key := kf k, val := v }, clock, ?_, ?_⟩
    · simp only [Instr.mapUpdate, Sem.run_bind, run_underlying (tk_map ht), Result.andThen_ok, hg, K.check, hq, hkey, K.stay, hs]
    · have hlist : (es.modify i fun e => { e with key := kf k, val := v }).toList = es.toList.modify i (fun e => { e with key := kf k, val := v }) := by simp
      refine ⟨?_, nodup_mput M.nodup k v, ?_, ?_⟩
      · rw [hlist]
        have key : ∀ (l : List MapEntry) (m : List (κ × Value)) (i : Nat), l.map (fun e => (e.key, e.val)) = m.map (fun p => (kf p.1, p.2)) → ix (m.map (·.1)) k = some i →
            (l.modify i (fun e => { e with key := kf k, val := v })).map (fun e => (e.key, e.val)) = (mput m k v).map (fun p => (kf p.1, p.2)) := by
          intro l
          induction l with
          | nil =>
            intro m i h1 h2
            have : m = [] := by simpa using h1.symm
            subst this; simp [ix] at h2
          | cons e l ih =>
            intro m i h1 h2
            cases m with
            | nil => simp at h1
            | cons p m =>
              obtain ⟨a, u⟩ := p
              simp only [List.map_cons, List.cons.injEq, Prod.mk.injEq] at h1
              simp only [List.map_cons, ix] at h2
              by_cases ha : a = k
              · simp only [ha, if_true, Option.some.injEq] at h2
                subst h2
                simp only [List.modify_zero_cons, List.map_cons, mput, ha, if_true, h1.2]
              · simp only [ha, if_false, Option.map_eq_some_iff] at h2
                obtain ⟨j, hj, rfl⟩ := h2
                simp only [List.modify_succ_cons, List.map_cons, mput, ha, if_false, ih m j h1.2 hj, h1.1]
        exact key es.toList kv i M.ents hix
      · rw [hlist]
        have : ∀ (l : List MapEntry) (i : Nat), (l.modify i (fun e => { e with key := kf k, val := v })).map (·.born) = l.map (·.born) := by
          intro l
          induction l with
          | nil => intro i; simp
          | cons e l ih => intro i; cases i <;> simp [ih]
        rw [this]; exact M.bn
      · intro e he
        rw [hlist] at he
        have : ∀ (l : List MapEntry) (i : Nat) (e : MapEntry), e ∈ l.modify i (fun e => { e with key := kf k, val := v }) → ∃ e' ∈ l, e'.born = e.born := by
          intro l
          induction l with
          | nil => intro i e h; simp at h
          | cons x l ih =>
            intro i e h
            cases i with
            | zero =>
              simp only [List.modify_zero_cons, List.mem_cons] at h
              rcases h with rfl | h
              · exact ⟨x, List.mem_cons_self, rfl⟩
              · exact ⟨e, List.mem_cons_of_mem _ h, rfl⟩
            | succ i =>
              simp only [List.modify_succ_cons, List.mem_cons] at h
              rcases h with rfl | h
              · exact ⟨_, List.mem_cons_self, rfl⟩
              · obtain ⟨e', h1, h2⟩ := ih i e h
                exact ⟨e', List.mem_cons_of_mem _ h1, h2⟩
        obtain ⟨e', h1, h2⟩ := this _ _ _ he
        have := M.lt e' h1
        omega
end

section
variable {X : Cx} {ops : Array Oper} {Q : Post} {rest : List Oper} {L : LT} {R : RL} {d : Nat} {x y q : Operand} {t ty : TypeId} {p : String} {af : Array Edge} {v : Value}
variable {κ : Type} [DecidableEq κ] {kf : κ → Value} {kv : List (κ × Value)} {es : Array MapEntry} {clock : Nat}

omit [DecidableEq κ] in
theorem mapIs_nil (kf : κ → Value) (clock : Nat) : MapIs kf [] #[] clock := ⟨rfl, List.nodup_nil, List.nodup_nil, fun _ h => by cases h⟩

theorem g_mkmap (hN : Nat.blt d X.N = true) (k : ∀ r, G X ops Q rest ((d, .map (some r)) :: L) ([(r, .map #[] 0)] :: R)) :
    G X ops Q (⟨some d, .makeMap t none, ty, p, af, none⟩ :: rest) L R :=
  g_run (Y := Nat) (fun r => .map (some r)) (fun r => [(r, .map #[] 0)] :: R) (fun _ => True) rfl rfl hN (by intro c h; cases h)
    (fun a w ha hE => ⟨w.heap.size, w.alloc (.map #[] 0), by
      simp only [execOp, Option.map_none, Instr.makeMap, newObj, Sem.run_bind, Sem.run, run_pure', Result.andThen_ok]
      rfl, hp_alloc hE _, trivial⟩) (fun b _ => k b)

/-- m[k]. -/
theorem g_look (i : Nat) {r : Nat} {k : κ} {kt et : TypeId} {z : Value} {s b : Nat} {te : Ti} (hR : R[i]? = some [(r, .map es clock)]) (hx : ev L x = some (.map (some r))) (hy : ev L y = some (kf k)) (ht : tl X.s.tab t = some ⟨.map kt et, z, s, b⟩) (hte : tl X.s.tab et = some te)
    (K : KL X.s.P kt kf) (M : MapIs kf kv es clock) (hN : Nat.blt d X.N = true) (k' : G X ops Q rest ((d, (ml kv k).getD te.z) :: L) R) :
    G X ops Q (⟨some d, .lookup t x y false, ty, p, af, none⟩ :: rest) L R :=
  g_run (Y := Unit) (fun _ => (ml kv k).getD te.z) (fun _ => R) (fun _ => True) rfl rfl hN (by intro c h; cases h)
    (fun a w ha hE => ⟨(), w, by
      have hr := run_lookup (X.s.ok.at ht) (X.s.ok.at hte) K M (hp_cellA hE hR) k false
      simp only [execOp]
      rw [ha.kn.ev hx, ha.kn.ev hy, Sem.run_bind, hr]; rfl, hE, trivial⟩) (fun _ _ => k')
/-- v, ok := m[k]. -/
theorem g_look2 (i : Nat) {r : Nat} {k : κ} {kt et : TypeId} {z : Value} {s b : Nat} {te : Ti} (hR : R[i]? = some [(r, .map es clock)]) (hx : ev L x = some (.map (some r))) (hy : ev L y = some (kf k)) (ht : tl X.s.tab t = some ⟨.map kt et, z, s, b⟩) (hte : tl X.s.tab et = some te)
    (K : KL X.s.P kt kf) (M : MapIs kf kv es clock) (hN : Nat.blt d X.N = true) (k' : G X ops Q rest ((d, .tuple #[(ml kv k).getD te.z, .bool (ml kv k).isSome]) :: L) R) :
    G X ops Q (⟨some d, .lookup t x y true, ty, p, af, none⟩ :: rest) L R :=
  g_run (Y := Unit) (fun _ => .tuple #[(ml kv k).getD te.z, .bool (ml kv k).isSome]) (fun _ => R) (fun _ => True) rfl rfl hN (by intro c h; cases h)
    (fun a w ha hE => ⟨(), w, by
      have hr := run_lookup (X.s.ok.at ht) (X.s.ok.at hte) K M (hp_cellA hE hR) k true
      simp only [execOp]
      rw [ha.kn.ev hx, ha.kn.ev hy, Sem.run_bind, hr]; rfl, hE, trivial⟩) (fun _ _ => k')

/-- m[k] = v. -/
theorem g_upd (i : Nat) {r : Nat} {k : κ} {kt et : TypeId} {z : Value} {s b : Nat} (hR : R[i]? = some [(r, .map es clock)]) (hx : ev L x = some (.map (some r))) (hy : ev L y = some (kf k)) (hq : ev L q = some v) (ht : tl X.s.tab t = some ⟨.map kt et, z, s, b⟩)
    (K : KL X.s.P kt kf) (M : MapIs kf kv es clock) (k' : ∀ es' clock', MapIs kf (mput kv k v) es' clock' → G X ops Q rest L (R.set i [(r, .map es' clock')])) :
    G X ops Q (⟨none, .mapUpdate t x y q, ty, p, af, none⟩ :: rest) L R :=
  g_runU (Y := Array MapEntry × Nat) (fun m => R.set i [(r, .map m.1 m.2)]) (fun m => MapIs kf (mput kv k v) m.1 m.2) rfl rfl (by intro c h; cases h)
    (fun a w ha hE => by
      have hb := hp_cellA hE hR
      obtain ⟨es', clock', hr, M'⟩ := run_mapUpdate (X.s.ok.at ht) K M hb k v
      refine ⟨(es', clock'), _, .inl ?_, hp_front i hR hE (Eff.setObj hb), M'⟩
      simp only [execOp]
      rw [ha.kn.ev hx, ha.kn.ev hy, ha.kn.ev hq, Sem.run_bind, hr]; rfl) (fun m hm => k' m.1 m.2 hm)

/-! ### Going through a map that stays as it is -/
omit [DecidableEq κ] in
/-- What has been gone through: a list of entries. -/
structure Gone (es : Array MapEntry) (done : List MapEntry) : Prop where
  sub : ∀ e, e ∈ done → e ∈ es.toList
  nodup : (done.map (·.born)).Nodup

theorem Gone.all {es : Array MapEntry} {done : List MapEntry} (h : Gone es done) (hb : (es.toList.map (·.born)).Nodup) (hall : ∀ e, e ∈ es.toList → e.born ∈ done.map (·.born)) : done.Perm es.toList := by
  have inj : ∀ e e', e ∈ es.toList → e' ∈ es.toList → e.born = e'.born → e = e' := by
    generalize es.toList = l at hb
    induction l with
    | nil => intro e e' h; cases h
    | cons x l ih =>
      simp only [List.map_cons, List.nodup_cons] at hb
      intro e e' h1 h2 h3
      rcases List.mem_cons.1 h1 with h1' | h1' <;> rcases List.mem_cons.1 h2 with h2' | h2'
      · rw [h1', h2']
      · exact absurd (List.mem_map.2 ⟨e', h2', by rw [← h3, h1']⟩) hb.1
      · exact absurd (List.mem_map.2 ⟨e, h1', by rw [h3, h2']⟩) hb.1
      · exact ih hb.2 _ _ h1' h2' h3
  have nd : ∀ l : List MapEntry, (l.map (·.born)).Nodup → l.Nodup := fun l hl => by
    induction l with
    | nil => exact List.nodup_nil
    | cons x l ih =>
      simp only [List.map_cons, List.nodup_cons] at hl ⊢
      exact ⟨fun hx => hl.1 (List.mem_map.2 ⟨x, hx, rfl⟩), ih hl.2⟩
  refine (List.perm_ext_iff_of_nodup (nd _ h.nodup) (nd _ hb)).2 fun e => ⟨h.sub e, fun he => ?_⟩
  obtain ⟨e', h1, h2⟩ := List.mem_map.1 (hall e he)
  rw [inj e e' he (h.sub e' h1) h2.symm]
  exact h1

end
end Go.Wk

/- The types of this translation, as a table; the kernel holds it against the program's own. -/
namespace Go.Proofs.YtpohhfggmaihpaaGreatDoor
open Go.Wk
def Tryz.tab : List (Nat × Ti) := [
  (1, ⟨.func, .nilFunc, 1, 8⟩),
  (2, ⟨.int .i64, .int .i64 0, 1, 8⟩),
  (3, ⟨.int .i64, .int .i64 0, 1, 8⟩),
  (4, ⟨.bool, .bool false, 1, 1⟩),
  (5, ⟨.int .u8, .int .u8 0, 1, 1⟩),
  (6, ⟨.int .u8, .int .u8 0, 1, 1⟩),
  (7, ⟨.struct [(0, 2), (1, 3), (2, 4), (3, 6)], .agg #[.int .i64 0, .int .i64 0, .bool false, .int .u8 0], 4, 24⟩),
  (8, ⟨.struct [(0, 2), (1, 3), (2, 4), (3, 6)], .agg #[.int .i64 0, .int .i64 0, .bool false, .int .u8 0], 4, 24⟩),
  (9, ⟨.string, .string ⟨#[]⟩, 1, 16⟩),
  (10, ⟨.string, .string ⟨#[]⟩, 1, 16⟩),
  (11, ⟨.string, .string ⟨#[]⟩, 1, 16⟩),
  (12, ⟨.int .u64, .int .u64 0, 1, 8⟩),
  (13, ⟨.struct [(0, 9), (1, 12)], .agg #[.string ⟨#[]⟩, .int .u64 0], 2, 24⟩),
  (14, ⟨.struct [(0, 9), (1, 12)], .agg #[.string ⟨#[]⟩, .int .u64 0], 2, 24⟩),
  (15, ⟨.pointer 227, .pointer none, 1, 8⟩),
  (16, ⟨.pointer 230, .pointer none, 1, 8⟩),
  (17, ⟨.pointer 237, .pointer none, 1, 8⟩),
  (18, ⟨.struct [(0, 17)], .agg #[.pointer none], 1, 8⟩),
  (19, ⟨.struct [(0, 17)], .agg #[.pointer none], 1, 8⟩),
  (20, ⟨.iface, .nilIface, 1, 16⟩),
  (21, ⟨.int .i32, .int .i32 0, 1, 4⟩),
  (22, ⟨.slice 66, .slice none 0 0, 1, 24⟩),
  (23, ⟨.slice 32, .slice none 0 0, 1, 24⟩),
  (24, ⟨.struct [(0, 22), (1, 23), (2, 3)], .agg #[.slice none 0 0, .slice none 0 0, .int .i64 0], 3, 56⟩),
  (25, ⟨.struct [(0, 22), (1, 23), (2, 3)], .agg #[.slice none 0 0, .slice none 0 0, .int .i64 0], 3, 56⟩),
  (26, ⟨.int .i64, .int .i64 0, 1, 8⟩),
  (27, ⟨.func, .nilFunc, 1, 8⟩),
  (28, ⟨.func, .nilFunc, 1, 8⟩),
  (29, ⟨.slice 90, .slice none 0 0, 1, 24⟩),
  (30, ⟨.slice 43, .slice none 0 0, 1, 24⟩),
  (31, ⟨.struct [(0, 9), (1, 3), (2, 3), (3, 4), (4, 29), (5, 30)], .agg #[.string ⟨#[]⟩, .int .i64 0, .int .i64 0, .bool false, .slice none 0 0, .slice none 0 0], 6, 88⟩),
  (32, ⟨.struct [(0, 9), (1, 3), (2, 3), (3, 4), (4, 29), (5, 30)], .agg #[.string ⟨#[]⟩, .int .i64 0, .int .i64 0, .bool false, .slice none 0 0, .slice none 0 0], 6, 88⟩),
  (33, ⟨.slice 3, .slice none 0 0, 1, 24⟩),
  (34, ⟨.func, .nilFunc, 1, 8⟩),
  (35, ⟨.int .i64, .int .i64 0, 1, 8⟩),
  (36, ⟨.int .i64, .int .i64 0, 1, 8⟩),
  (37, ⟨.int .i64, .int .i64 0, 1, 8⟩),
  (38, ⟨.int .u32, .int .u32 0, 1, 4⟩),
  (39, ⟨.struct [(0, 37), (1, 38)], .agg #[.int .i64 0, .int .u32 0], 2, 16⟩),
  (40, ⟨.struct [(0, 37), (1, 38)], .agg #[.int .i64 0, .int .u32 0], 2, 16⟩),
  (41, ⟨.slice 40, .slice none 0 0, 1, 24⟩),
  (42, ⟨.struct [(0, 35), (1, 36), (2, 3), (3, 40), (5, 40), (7, 3), (8, 3), (9, 3), (10, 4), (11, 41)], .agg #[.int .i64 0, .int .i64 0, .int .i64 0, .int .i64 0, .int .u32 0, .int .i64 0, .int .u32 0, .int .i64 0, .int .i64 0, .int .i64 0, .bool false, .slice none 0 0], 12, 112⟩),
  (43, ⟨.struct [(0, 35), (1, 36), (2, 3), (3, 40), (5, 40), (7, 3), (8, 3), (9, 3), (10, 4), (11, 41)], .agg #[.int .i64 0, .int .i64 0, .int .i64 0, .int .i64 0, .int .u32 0, .int .i64 0, .int .u32 0, .int .i64 0, .int .i64 0, .int .i64 0, .bool false, .slice none 0 0], 12, 112⟩),
  (44, ⟨.func, .nilFunc, 1, 8⟩),
  (45, ⟨.func, .nilFunc, 1, 8⟩),
  (46, ⟨.func, .nilFunc, 1, 8⟩),
  (47, ⟨.func, .nilFunc, 1, 8⟩),
  (48, ⟨.func, .nilFunc, 1, 8⟩),
  (49, ⟨.func, .nilFunc, 1, 8⟩),
  (50, ⟨.func, .nilFunc, 1, 8⟩),
  (51, ⟨.func, .nilFunc, 1, 8⟩),
  (53, ⟨.func, .nilFunc, 1, 8⟩),
  (55, ⟨.func, .nilFunc, 1, 8⟩),
  (57, ⟨.func, .nilFunc, 1, 8⟩),
  (58, ⟨.struct [(0, 25), (3, 32)], .agg #[.slice none 0 0, .slice none 0 0, .int .i64 0, .string ⟨#[]⟩, .int .i64 0, .int .i64 0, .bool false, .slice none 0 0, .slice none 0 0], 9, 144⟩),
  (59, ⟨.struct [(0, 25), (3, 32)], .agg #[.slice none 0 0, .slice none 0 0, .int .i64 0, .string ⟨#[]⟩, .int .i64 0, .int .i64 0, .bool false, .slice none 0 0, .slice none 0 0], 9, 144⟩),
  (60, ⟨.func, .nilFunc, 1, 8⟩),
  (61, ⟨.slice 5, .slice none 0 0, 1, 24⟩),
  (62, ⟨.slice 78, .slice none 0 0, 1, 24⟩),
  (63, ⟨.struct [(0, 61), (1, 62)], .agg #[.slice none 0 0, .slice none 0 0], 2, 48⟩),
  (64, ⟨.struct [(0, 61), (1, 62)], .agg #[.slice none 0 0, .slice none 0 0], 2, 48⟩),
  (65, ⟨.struct [(0, 9), (1, 3), (2, 3), (3, 64)], .agg #[.string ⟨#[]⟩, .int .i64 0, .int .i64 0, .slice none 0 0, .slice none 0 0], 5, 80⟩),
  (66, ⟨.struct [(0, 9), (1, 3), (2, 3), (3, 64)], .agg #[.string ⟨#[]⟩, .int .i64 0, .int .i64 0, .slice none 0 0, .slice none 0 0], 5, 80⟩),
  (67, ⟨.func, .nilFunc, 1, 8⟩),
  (68, ⟨.map 9 3, .map none, 1, 8⟩),
  (69, ⟨.func, .nilFunc, 1, 8⟩),
  (70, ⟨.func, .nilFunc, 1, 8⟩),
  (71, ⟨.func, .nilFunc, 1, 8⟩),
  (72, ⟨.func, .nilFunc, 1, 8⟩),
  (73, ⟨.func, .nilFunc, 1, 8⟩),
  (74, ⟨.func, .nilFunc, 1, 8⟩),
  (75, ⟨.func, .nilFunc, 1, 8⟩),
  (76, ⟨.func, .nilFunc, 1, 8⟩),
  (77, ⟨.struct [(0, 3), (1, 3), (2, 3)], .agg #[.int .i64 0, .int .i64 0, .int .i64 0], 3, 24⟩),
  (78, ⟨.struct [(0, 3), (1, 3), (2, 3)], .agg #[.int .i64 0, .int .i64 0, .int .i64 0], 3, 24⟩),
  (79, ⟨.func, .nilFunc, 1, 8⟩),
  (80, ⟨.pointer 82, .pointer none, 1, 8⟩),
  (81, ⟨.struct [(0, 80), (1, 61)], .agg #[.pointer none, .slice none 0 0], 2, 32⟩),
  (82, ⟨.struct [(0, 80), (1, 61)], .agg #[.pointer none, .slice none 0 0], 2, 32⟩),
  (83, ⟨.struct [(0, 82)], .agg #[.pointer none, .slice none 0 0], 2, 32⟩),
  (84, ⟨.struct [(0, 82)], .agg #[.pointer none, .slice none 0 0], 2, 32⟩),
  (85, ⟨.func, .nilFunc, 1, 8⟩),
  (86, ⟨.func, .nilFunc, 1, 8⟩),
  (87, ⟨.func, .nilFunc, 1, 8⟩),
  (88, ⟨.slice 9, .slice none 0 0, 1, 24⟩),
  (89, ⟨.struct [(0, 3), (1, 3)], .agg #[.int .i64 0, .int .i64 0], 2, 16⟩),
  (90, ⟨.struct [(0, 3), (1, 3)], .agg #[.int .i64 0, .int .i64 0], 2, 16⟩),
  (91, ⟨.func, .nilFunc, 1, 8⟩),
  (92, ⟨.func, .nilFunc, 1, 8⟩),
  (93, ⟨.func, .nilFunc, 1, 8⟩),
  (95, ⟨.func, .nilFunc, 1, 8⟩),
  (97, ⟨.func, .nilFunc, 1, 8⟩),
  (98, ⟨.func, .nilFunc, 1, 8⟩),
  (99, ⟨.func, .nilFunc, 1, 8⟩),
  (100, ⟨.func, .nilFunc, 1, 8⟩),
  (101, ⟨.func, .nilFunc, 1, 8⟩),
  (102, ⟨.func, .nilFunc, 1, 8⟩),
  (103, ⟨.func, .nilFunc, 1, 8⟩),
  (104, ⟨.func, .nilFunc, 1, 8⟩),
  (105, ⟨.int .u64, .int .u64 0, 1, 8⟩),
  (106, ⟨.func, .nilFunc, 1, 8⟩),
  (107, ⟨.func, .nilFunc, 1, 8⟩),
  (108, ⟨.pointer 84, .pointer none, 1, 8⟩),
  (109, ⟨.iface, .nilIface, 1, 16⟩),
  (110, ⟨.iface, .nilIface, 1, 16⟩),
  (112, ⟨.func, .nilFunc, 1, 8⟩),
  (113, ⟨.func, .nilFunc, 1, 8⟩),
  (114, ⟨.func, .nilFunc, 1, 8⟩),
  (115, ⟨.func, .nilFunc, 1, 8⟩),
  (116, ⟨.pointer 5, .pointer none, 1, 8⟩),
  (117, ⟨.func, .nilFunc, 1, 8⟩),
  (118, ⟨.struct [], .agg #[], 0, 0⟩),
  (119, ⟨.struct [], .agg #[], 0, 0⟩),
  (120, ⟨.func, .nilFunc, 1, 8⟩),
  (121, ⟨.func, .nilFunc, 1, 8⟩),
  (122, ⟨.func, .nilFunc, 1, 8⟩),
  (123, ⟨.pointer 127, .pointer none, 1, 8⟩),
  (124, ⟨.func, .nilFunc, 1, 8⟩),
  (125, ⟨.func, .nilFunc, 1, 8⟩),
  (126, ⟨.struct [(0, 88)], .agg #[.slice none 0 0], 1, 24⟩),
  (127, ⟨.struct [(0, 88)], .agg #[.slice none 0 0], 1, 24⟩),
  (128, ⟨.func, .nilFunc, 1, 8⟩),
  (129, ⟨.func, .nilFunc, 1, 8⟩),
  (130, ⟨.pointer 64, .pointer none, 1, 8⟩),
  (131, ⟨.pointer 32, .pointer none, 1, 8⟩),
  (132, ⟨.func, .nilFunc, 1, 8⟩),
  (134, ⟨.func, .nilFunc, 1, 8⟩),
  (135, ⟨.func, .nilFunc, 1, 8⟩),
  (136, ⟨.func, .nilFunc, 1, 8⟩),
  (137, ⟨.func, .nilFunc, 1, 8⟩),
  (138, ⟨.func, .nilFunc, 1, 8⟩),
  (139, ⟨.int .i64, .int .i64 0, 1, 8⟩),
  (141, ⟨.func, .nilFunc, 1, 8⟩),
  (142, ⟨.func, .nilFunc, 1, 8⟩),
  (143, ⟨.func, .nilFunc, 1, 8⟩),
  (145, ⟨.func, .nilFunc, 1, 8⟩),
  (146, ⟨.func, .nilFunc, 1, 8⟩),
  (147, ⟨.func, .nilFunc, 1, 8⟩),
  (148, ⟨.int .u64, .int .u64 0, 1, 8⟩),
  (149, ⟨.func, .nilFunc, 1, 8⟩),
  (150, ⟨.func, .nilFunc, 1, 8⟩),
  (151, ⟨.func, .nilFunc, 1, 8⟩),
  (152, ⟨.func, .nilFunc, 1, 8⟩),
  (153, ⟨.func, .nilFunc, 1, 8⟩),
  (154, ⟨.array 19 9, .agg #[.string ⟨#[]⟩, .string ⟨#[]⟩, .string ⟨#[]⟩, .string ⟨#[]⟩, .string ⟨#[]⟩, .string ⟨#[]⟩, .string ⟨#[]⟩, .string ⟨#[]⟩, .string ⟨#[]⟩, .string ⟨#[]⟩, .string ⟨#[]⟩, .string ⟨#[]⟩, .string ⟨#[]⟩, .string ⟨#[]⟩, .string ⟨#[]⟩, .string ⟨#[]⟩, .string ⟨#[]⟩, .string ⟨#[]⟩, .string ⟨#[]⟩], 19, 304⟩),
  (155, ⟨.func, .nilFunc, 1, 8⟩),
  (156, ⟨.func, .nilFunc, 1, 8⟩),
  (157, ⟨.func, .nilFunc, 1, 8⟩),
  (159, ⟨.map 9 36, .map none, 1, 8⟩),
  (160, ⟨.func, .nilFunc, 1, 8⟩),
  (161, ⟨.func, .nilFunc, 1, 8⟩),
  (162, ⟨.array 256 4, .agg #[.bool false, .bool false, .bool false, .bool false, .bool false, .bool false, .bool false, .bool false, .bool false, .bool false, .bool false, .bool false, .bool false, .bool false, .bool false, .bool false, .bool false, .bool false, .bool false, .bool false, .bool false, .bool false, .bool false, .bool false, .bool false, .bool false, .bool false, .bool false, .bool false, .bool false, .bool false, .bool false, .bool false, .bool false, .bool false, .bool false, .bool false, .bool false, .bool false, .bool false, .bool false, .bool false, .bool false, .bool false, .bool false, .bool false, .bool false, .bool false, .bool false, .bool false, .bool false, .bool false, .bool false, .bool false, .bool false, .bool false, .bool false, .bool false, .bool false, .bool false, .bool false, .bool false, .bool false, .bool false, .bool false, .bool false, .bool false, .bool false, .bool false, .bool false, .bool false, .bool false, .bool false, .bool false, .bool false, .bool false, .bool false, .bool false, .bool false, .bool false, .bool false, .bool false, .bool false, .bool false, .bool false, .bool false, .bool false, .bool false, .bool false, .bool false, .bool false, .bool false, .bool false, .bool false, .bool false, .bool false, .bool false, .bool false, .bool false, .bool false, .bool false, .bool false, .bool false, .bool false, .bool false, .bool false, .bool false, .bool false, .bool false, .bool false, .bool false, .bool false, .bool false, .bool false, .bool false, .bool false, .bool false, .bool false, .bool false, .bool false, .bool false, .bool false, .bool false, .bool false, .bool false, .bool false, .bool false, .bool false, .bool false, .bool false, .bool false, .bool false, .bool false, .bool false, .bool false, .bool false, .bool false, .bool false, .bool false, .bool false, .bool false, .bool false, .bool false, .bool false, .bool false, .bool false, .bool false, .bool false, .bool false, .bool false, .bool false, .bool false, .bool false, .bool false, .bool false, .bool false, .bool false, .bool false, .bool false, .bool false, .bool false, .bool false, .bool false, .bool false, .bool false, .bool false, .bool false, .bool false, .bool false, .bool false, .bool false, .bool false, .bool false, .bool false, .bool false, .bool false, .bool false, .bool false, .bool false, .bool false, .bool false, .bool false, .bool false, .bool false, .bool false, .bool false, .bool false, .bool false, .bool false, .bool false, .bool false, .bool false, .bool false, .bool false, .bool false, .bool false, .bool false, .bool false, .bool false, .bool false, .bool false, .bool false, .bool false, .bool false, .bool false, .bool false, .bool false, .bool false, .bool false, .bool false, .bool false, .bool false, .bool false, .bool false, .bool false, .bool false, .bool false, .bool false, .bool false, .bool false, .bool false, .bool false, .bool false, .bool false, .bool false, .bool false, .bool false, .bool false, .bool false, .bool false, .bool false, .bool false, .bool false, .bool false, .bool false, .bool false, .bool false, .bool false, .bool false, .bool false, .bool false, .bool false, .bool false, .bool false, .bool false, .bool false, .bool false, .bool false, .bool false, .bool false, .bool false, .bool false, .bool false, .bool false, .bool false, .bool false], 256, 256⟩),
  (163, ⟨.array 256 4, .agg #[.bool false, .bool false, .bool false, .bool false, .bool false, .bool false, .bool false, .bool false, .bool false, .bool false, .bool false, .bool false, .bool false, .bool false, .bool false, .bool false, .bool false, .bool false, .bool false, .bool false, .bool false, .bool false, .bool false, .bool false, .bool false, .bool false, .bool false, .bool false, .bool false, .bool false, .bool false, .bool false, .bool false, .bool false, .bool false, .bool false, .bool false, .bool false, .bool false, .bool false, .bool false, .bool false, .bool false, .bool false, .bool false, .bool false, .bool false, .bool false, .bool false, .bool false, .bool false, .bool false, .bool false, .bool false, .bool false, .bool false, .bool false, .bool false, .bool false, .bool false, .bool false, .bool false, .bool false, .bool false, .bool false, .bool false, .bool false, .bool false, .bool false, .bool false, .bool false, .bool false, .bool false, .bool false, .bool false, .bool false, .bool false, .bool false, .bool false, .bool false, .bool false, .bool false, .bool false, .bool false, .bool false, .bool false, .bool false, .bool false, .bool false, .bool false, .bool false, .bool false, .bool false, .bool false, .bool false, .bool false, .bool false, .bool false, .bool false, .bool false, .bool false, .bool false, .bool false, .bool false, .bool false, .bool false, .bool false, .bool false, .bool false, .bool false, .bool false, .bool false, .bool false, .bool false, .bool false, .bool false, .bool false, .bool false, .bool false, .bool false, .bool false, .bool false, .bool false, .bool false, .bool false, .bool false, .bool false, .bool false, .bool false, .bool false, .bool false, .bool false, .bool false, .bool false, .bool false, .bool false, .bool false, .bool false, .bool false, .bool false, .bool false, .bool false, .bool false, .bool false, .bool false, .bool false, .bool false, .bool false, .bool false, .bool false, .bool false, .bool false, .bool false, .bool false, .bool false, .bool false, .bool false, .bool false, .bool false, .bool false, .bool false, .bool false, .bool false, .bool false, .bool false, .bool false, .bool false, .bool false, .bool false, .bool false, .bool false, .bool false, .bool false, .bool false, .bool false, .bool false, .bool false, .bool false, .bool false, .bool false, .bool false, .bool false, .bool false, .bool false, .bool false, .bool false, .bool false, .bool false, .bool false, .bool false, .bool false, .bool false, .bool false, .bool false, .bool false, .bool false, .bool false, .bool false, .bool false, .bool false, .bool false, .bool false, .bool false, .bool false, .bool false, .bool false, .bool false, .bool false, .bool false, .bool false, .bool false, .bool false, .bool false, .bool false, .bool false, .bool false, .bool false, .bool false, .bool false, .bool false, .bool false, .bool false, .bool false, .bool false, .bool false, .bool false, .bool false, .bool false, .bool false, .bool false, .bool false, .bool false, .bool false, .bool false, .bool false, .bool false, .bool false, .bool false, .bool false, .bool false, .bool false, .bool false, .bool false, .bool false, .bool false, .bool false, .bool false, .bool false, .bool false, .bool false, .bool false, .bool false, .bool false, .bool false, .bool false, .bool false], 256, 256⟩),
  (165, ⟨.func, .nilFunc, 1, 8⟩),
  (166, ⟨.func, .nilFunc, 1, 8⟩),
  (167, ⟨.pointer 163, .pointer none, 1, 8⟩),
  (168, ⟨.func, .nilFunc, 1, 8⟩),
  (169, ⟨.int .u64, .int .u64 0, 1, 8⟩),
  (170, ⟨.func, .nilFunc, 1, 8⟩),
  (171, ⟨.func, .nilFunc, 1, 8⟩),
  (172, ⟨.func, .nilFunc, 1, 8⟩),
  (173, ⟨.pointer 3, .pointer none, 1, 8⟩),
  (174, ⟨.func, .nilFunc, 1, 8⟩),
  (175, ⟨.func, .nilFunc, 1, 8⟩),
  (176, ⟨.other, .pointer none, 1, 8⟩),
  (177, ⟨.func, .nilFunc, 1, 8⟩),
  (178, ⟨.func, .nilFunc, 1, 8⟩),
  (179, ⟨.func, .nilFunc, 1, 8⟩),
  (180, ⟨.func, .nilFunc, 1, 8⟩),
  (181, ⟨.func, .nilFunc, 1, 8⟩),
  (182, ⟨.func, .nilFunc, 1, 8⟩),
  (184, ⟨.func, .nilFunc, 1, 8⟩),
  (186, ⟨.func, .nilFunc, 1, 8⟩),
  (187, ⟨.func, .nilFunc, 1, 8⟩),
  (188, ⟨.func, .nilFunc, 1, 8⟩),
  (189, ⟨.pointer 169, .pointer none, 1, 8⟩),
  (191, ⟨.func, .nilFunc, 1, 8⟩),
  (192, ⟨.func, .nilFunc, 1, 8⟩),
  (193, ⟨.array 24 5, .agg #[.int .u8 0, .int .u8 0, .int .u8 0, .int .u8 0, .int .u8 0, .int .u8 0, .int .u8 0, .int .u8 0, .int .u8 0, .int .u8 0, .int .u8 0, .int .u8 0, .int .u8 0, .int .u8 0, .int .u8 0, .int .u8 0, .int .u8 0, .int .u8 0, .int .u8 0, .int .u8 0, .int .u8 0, .int .u8 0, .int .u8 0, .int .u8 0], 24, 24⟩),
  (194, ⟨.func, .nilFunc, 1, 8⟩),
  (196, ⟨.func, .nilFunc, 1, 8⟩),
  (197, ⟨.func, .nilFunc, 1, 8⟩),
  (198, ⟨.int .i64, .int .i64 0, 1, 8⟩),
  (200, ⟨.func, .nilFunc, 1, 8⟩),
  (201, ⟨.pointer 211, .pointer none, 1, 8⟩),
  (202, ⟨.func, .nilFunc, 1, 8⟩),
  (203, ⟨.func, .nilFunc, 1, 8⟩),
  (204, ⟨.func, .nilFunc, 1, 8⟩),
  (205, ⟨.func, .nilFunc, 1, 8⟩),
  (206, ⟨.func, .nilFunc, 1, 8⟩),
  (207, ⟨.array 20 148, .agg #[.int .u64 0, .int .u64 0, .int .u64 0, .int .u64 0, .int .u64 0, .int .u64 0, .int .u64 0, .int .u64 0, .int .u64 0, .int .u64 0, .int .u64 0, .int .u64 0, .int .u64 0, .int .u64 0, .int .u64 0, .int .u64 0, .int .u64 0, .int .u64 0, .int .u64 0, .int .u64 0], 20, 160⟩),
  (208, ⟨.array 65 5, .agg #[.int .u8 0, .int .u8 0, .int .u8 0, .int .u8 0, .int .u8 0, .int .u8 0, .int .u8 0, .int .u8 0, .int .u8 0, .int .u8 0, .int .u8 0, .int .u8 0, .int .u8 0, .int .u8 0, .int .u8 0, .int .u8 0, .int .u8 0, .int .u8 0, .int .u8 0, .int .u8 0, .int .u8 0, .int .u8 0, .int .u8 0, .int .u8 0, .int .u8 0, .int .u8 0, .int .u8 0, .int .u8 0, .int .u8 0, .int .u8 0, .int .u8 0, .int .u8 0, .int .u8 0, .int .u8 0, .int .u8 0, .int .u8 0, .int .u8 0, .int .u8 0, .int .u8 0, .int .u8 0, .int .u8 0, .int .u8 0, .int .u8 0, .int .u8 0, .int .u8 0, .int .u8 0, .int .u8 0, .int .u8 0, .int .u8 0, .int .u8 0, .int .u8 0, .int .u8 0, .int .u8 0, .int .u8 0, .int .u8 0, .int .u8 0, .int .u8 0, .int .u8 0, .int .u8 0, .int .u8 0, .int .u8 0, .int .u8 0, .int .u8 0, .int .u8 0, .int .u8 0], 65, 65⟩),
  (209, ⟨.func, .nilFunc, 1, 8⟩),
  (210, ⟨.struct [(0, 9), (1, 9), (2, 110)], .agg #[.string ⟨#[]⟩, .string ⟨#[]⟩, .nilIface], 3, 48⟩),
  (211, ⟨.struct [(0, 9), (1, 9), (2, 110)], .agg #[.string ⟨#[]⟩, .string ⟨#[]⟩, .nilIface], 3, 48⟩),
  (212, ⟨.func, .nilFunc, 1, 8⟩),
  (213, ⟨.func, .nilFunc, 1, 8⟩),
  (214, ⟨.array 256 5, .agg #[.int .u8 0, .int .u8 0, .int .u8 0, .int .u8 0, .int .u8 0, .int .u8 0, .int .u8 0, .int .u8 0, .int .u8 0, .int .u8 0, .int .u8 0, .int .u8 0, .int .u8 0, .int .u8 0, .int .u8 0, .int .u8 0, .int .u8 0, .int .u8 0, .int .u8 0, .int .u8 0, .int .u8 0, .int .u8 0, .int .u8 0, .int .u8 0, .int .u8 0, .int .u8 0, .int .u8 0, .int .u8 0, .int .u8 0, .int .u8 0, .int .u8 0, .int .u8 0, .int .u8 0, .int .u8 0, .int .u8 0, .int .u8 0, .int .u8 0, .int .u8 0, .int .u8 0, .int .u8 0, .int .u8 0, .int .u8 0, .int .u8 0, .int .u8 0, .int .u8 0, .int .u8 0, .int .u8 0, .int .u8 0, .int .u8 0, .int .u8 0, .int .u8 0, .int .u8 0, .int .u8 0, .int .u8 0, .int .u8 0, .int .u8 0, .int .u8 0, .int .u8 0, .int .u8 0, .int .u8 0, .int .u8 0, .int .u8 0, .int .u8 0, .int .u8 0, .int .u8 0, .int .u8 0, .int .u8 0, .int .u8 0, .int .u8 0, .int .u8 0, .int .u8 0, .int .u8 0, .int .u8 0, .int .u8 0, .int .u8 0, .int .u8 0, .int .u8 0, .int .u8 0, .int .u8 0, .int .u8 0, .int .u8 0, .int .u8 0, .int .u8 0, .int .u8 0, .int .u8 0, .int .u8 0, .int .u8 0, .int .u8 0, .int .u8 0, .int .u8 0, .int .u8 0, .int .u8 0, .int .u8 0, .int .u8 0, .int .u8 0, .int .u8 0, .int .u8 0, .int .u8 0, .int .u8 0, .int .u8 0, .int .u8 0, .int .u8 0, .int .u8 0, .int .u8 0, .int .u8 0, .int .u8 0, .int .u8 0, .int .u8 0, .int .u8 0, .int .u8 0, .int .u8 0, .int .u8 0, .int .u8 0, .int .u8 0, .int .u8 0, .int .u8 0, .int .u8 0, .int .u8 0, .int .u8 0, .int .u8 0, .int .u8 0, .int .u8 0, .int .u8 0, .int .u8 0, .int .u8 0, .int .u8 0, .int .u8 0, .int .u8 0, .int .u8 0, .int .u8 0, .int .u8 0, .int .u8 0, .int .u8 0, .int .u8 0, .int .u8 0, .int .u8 0, .int .u8 0, .int .u8 0, .int .u8 0, .int .u8 0, .int .u8 0, .int .u8 0, .int .u8 0, .int .u8 0, .int .u8 0, .int .u8 0, .int .u8 0, .int .u8 0, .int .u8 0, .int .u8 0, .int .u8 0, .int .u8 0, .int .u8 0, .int .u8 0, .int .u8 0, .int .u8 0, .int .u8 0, .int .u8 0, .int .u8 0, .int .u8 0, .int .u8 0, .int .u8 0, .int .u8 0, .int .u8 0, .int .u8 0, .int .u8 0, .int .u8 0, .int .u8 0, .int .u8 0, .int .u8 0, .int .u8 0, .int .u8 0, .int .u8 0, .int .u8 0, .int .u8 0, .int .u8 0, .int .u8 0, .int .u8 0, .int .u8 0, .int .u8 0, .int .u8 0, .int .u8 0, .int .u8 0, .int .u8 0, .int .u8 0, .int .u8 0, .int .u8 0, .int .u8 0, .int .u8 0, .int .u8 0, .int .u8 0, .int .u8 0, .int .u8 0, .int .u8 0, .int .u8 0, .int .u8 0, .int .u8 0, .int .u8 0, .int .u8 0, .int .u8 0, .int .u8 0, .int .u8 0, .int .u8 0, .int .u8 0, .int .u8 0, .int .u8 0, .int .u8 0, .int .u8 0, .int .u8 0, .int .u8 0, .int .u8 0, .int .u8 0, .int .u8 0, .int .u8 0, .int .u8 0, .int .u8 0, .int .u8 0, .int .u8 0, .int .u8 0, .int .u8 0, .int .u8 0, .int .u8 0, .int .u8 0, .int .u8 0, .int .u8 0, .int .u8 0, .int .u8 0, .int .u8 0, .int .u8 0, .int .u8 0, .int .u8 0, .int .u8 0, .int .u8 0, .int .u8 0, .int .u8 0, .int .u8 0, .int .u8 0, .int .u8 0, .int .u8 0, .int .u8 0, .int .u8 0, .int .u8 0, .int .u8 0, .int .u8 0, .int .u8 0, .int .u8 0, .int .u8 0, .int .u8 0, .int .u8 0, .int .u8 0, .int .u8 0, .int .u8 0, .int .u8 0, .int .u8 0, .int .u8 0, .int .u8 0], 256, 256⟩),
  (215, ⟨.struct [(0, 5), (1, 5)], .agg #[.int .u8 0, .int .u8 0], 2, 2⟩),
  (216, ⟨.struct [(0, 5), (1, 5)], .agg #[.int .u8 0, .int .u8 0], 2, 2⟩),
  (217, ⟨.array 16 216, .agg #[.int .u8 0, .int .u8 0, .int .u8 0, .int .u8 0, .int .u8 0, .int .u8 0, .int .u8 0, .int .u8 0, .int .u8 0, .int .u8 0, .int .u8 0, .int .u8 0, .int .u8 0, .int .u8 0, .int .u8 0, .int .u8 0, .int .u8 0, .int .u8 0, .int .u8 0, .int .u8 0, .int .u8 0, .int .u8 0, .int .u8 0, .int .u8 0, .int .u8 0, .int .u8 0, .int .u8 0, .int .u8 0, .int .u8 0, .int .u8 0, .int .u8 0, .int .u8 0], 32, 32⟩),
  (218, ⟨.func, .nilFunc, 1, 8⟩),
  (220, ⟨.func, .nilFunc, 1, 8⟩),
  (221, ⟨.pointer 223, .pointer none, 1, 8⟩),
  (222, ⟨.struct [(0, 9)], .agg #[.string ⟨#[]⟩], 1, 16⟩),
  (223, ⟨.struct [(0, 9)], .agg #[.string ⟨#[]⟩], 1, 16⟩),
  (224, ⟨.array 32 5, .agg #[.int .u8 0, .int .u8 0, .int .u8 0, .int .u8 0, .int .u8 0, .int .u8 0, .int .u8 0, .int .u8 0, .int .u8 0, .int .u8 0, .int .u8 0, .int .u8 0, .int .u8 0, .int .u8 0, .int .u8 0, .int .u8 0, .int .u8 0, .int .u8 0, .int .u8 0, .int .u8 0, .int .u8 0, .int .u8 0, .int .u8 0, .int .u8 0, .int .u8 0, .int .u8 0, .int .u8 0, .int .u8 0, .int .u8 0, .int .u8 0, .int .u8 0, .int .u8 0], 32, 32⟩),
  (225, ⟨.array 64 5, .agg #[.int .u8 0, .int .u8 0, .int .u8 0, .int .u8 0, .int .u8 0, .int .u8 0, .int .u8 0, .int .u8 0, .int .u8 0, .int .u8 0, .int .u8 0, .int .u8 0, .int .u8 0, .int .u8 0, .int .u8 0, .int .u8 0, .int .u8 0, .int .u8 0, .int .u8 0, .int .u8 0, .int .u8 0, .int .u8 0, .int .u8 0, .int .u8 0, .int .u8 0, .int .u8 0, .int .u8 0, .int .u8 0, .int .u8 0, .int .u8 0, .int .u8 0, .int .u8 0, .int .u8 0, .int .u8 0, .int .u8 0, .int .u8 0, .int .u8 0, .int .u8 0, .int .u8 0, .int .u8 0, .int .u8 0, .int .u8 0, .int .u8 0, .int .u8 0, .int .u8 0, .int .u8 0, .int .u8 0, .int .u8 0, .int .u8 0, .int .u8 0, .int .u8 0, .int .u8 0, .int .u8 0, .int .u8 0, .int .u8 0, .int .u8 0, .int .u8 0, .int .u8 0, .int .u8 0, .int .u8 0, .int .u8 0, .int .u8 0, .int .u8 0, .int .u8 0], 64, 64⟩),
  (226, ⟨.struct [(0, 17), (1, 17), (2, 17), (3, 9)], .agg #[.pointer none, .pointer none, .pointer none, .string ⟨#[]⟩], 4, 40⟩),
  (227, ⟨.struct [(0, 17), (1, 17), (2, 17), (3, 9)], .agg #[.pointer none, .pointer none, .pointer none, .string ⟨#[]⟩], 4, 40⟩),
  (228, ⟨.array 0 16, .agg #[], 0, 0⟩),
  (229, ⟨.struct [(0, 228)], .agg #[], 0, 0⟩),
  (230, ⟨.struct [(0, 228)], .agg #[], 0, 0⟩),
  (231, ⟨.int .u8, .int .u8 0, 1, 1⟩),
  (232, ⟨.int .u8, .int .u8 0, 1, 1⟩),
  (233, ⟨.func, .nilFunc, 1, 8⟩),
  (234, ⟨.int .i32, .int .i32 0, 1, 4⟩),
  (235, ⟨.int .i32, .int .i32 0, 1, 4⟩),
  (236, ⟨.struct [(0, 12), (1, 12), (2, 38), (3, 231), (4, 5), (5, 5), (6, 232), (7, 233), (8, 116), (9, 234), (10, 235)], .agg #[.int .u64 0, .int .u64 0, .int .u32 0, .int .u8 0, .int .u8 0, .int .u8 0, .int .u8 0, .nilFunc, .pointer none, .int .i32 0, .int .i32 0], 11, 48⟩),
  (237, ⟨.struct [(0, 12), (1, 12), (2, 38), (3, 231), (4, 5), (5, 5), (6, 232), (7, 233), (8, 116), (9, 234), (10, 235)], .agg #[.int .u64 0, .int .u64 0, .int .u32 0, .int .u8 0, .int .u8 0, .int .u8 0, .int .u8 0, .nilFunc, .pointer none, .int .i32 0, .int .i32 0], 11, 48⟩)]
theorem Tryz.tab_ok : TbOk Tryz.prog Tryz.tab := by unfold TbOk; kernel_rfl
noncomputable def Tryz.sx : Sx := ⟨Tryz.prog, Tryz.tab, Tryz.tab_ok⟩
end Go.Proofs.YtpohhfggmaihpaaGreatDoor

/- The library's Sort, Compact, Clone at []int: the shelf's contracts, laid, as contracts over memory of one's own. -/
namespace Go.Proofs.YtpohhfggmaihpaaGreatDoor
open Go.Wk
set_option linter.unusedVariables false
abbrev fI (n : Int) : List Value := [.int .i64 n]
abbrev OwnI (v : Value) (l : List Int) (A : HL) : Prop := OwnL 3 1 fI v l A
theorem OwnI.mk {g cap : Nat} {l : List Int} {rest : List Value} (h1 : l.length ≤ cap) (h2 : cap ≤ maxLen) (h3 : (l.map (Value.int .i64) ++ rest).length = cap) : OwnI (.slice (some ⟨g, 0, none⟩) l.length cap) l [(g, .cells ⟨l.map (Value.int .i64) ++ rest⟩ 3 (0, 0))] := by
  have hf : l.flatMap fI = l.map (Value.int .i64) := flat_one (Value.int .i64) l
  refine ⟨by rw [hf]; simp, .inr ⟨g, cap, rest, rfl, by rw [hf], h1, h2, by rw [hf]; simpa using h3⟩⟩

end Go.Proofs.YtpohhfggmaihpaaGreatDoor

/- What instructions read and write, where they go on: as plain functions. -/
namespace Go.Proofs.YtpohhfggmaihpaaGreatDoor
open Go.Wk

structure Arg where
  k : Int
  n : Int
def Arg.cells (a : Arg) : List Value := [.int .i64 a.k, .int .u32 a.n]
structure Ins where
  op : Int
  bin : Int
  d : Int
  a : Arg
  b : Arg
  n : Int
  off : Int
  width : Int
  signed : Bool
  args : List Arg
  aA : Option Addr
  aC : Nat
def Ins.cells (x : Ins) : List Value := [.int .i64 x.op, .int .i64 x.bin, .int .i64 x.d, .int .i64 x.a.k, .int .u32 x.a.n, .int .i64 x.b.k, .int .u32 x.b.n, .int .i64 x.n, .int .i64 x.off, .int .i64 x.width, .bool x.signed, .slice x.aA x.args.length x.aC]
def Ins.val (x : Ins) : Value := .agg x.cells.toArray

def Arg.ok (a : Arg) : Prop := 0 ≤ a.n ∧ a.n ≤ 4294967295
def in64 (n : Int) : Prop := -9223372036854775808 ≤ n ∧ n ≤ 9223372036854775807
/-- An instruction, as memory h holds it. -/
structure InsIn (h : Nat → Option Obj) (x : Ins) : Prop where
  args : Rd h Arg.cells 2 x.aA x.args
  len : x.args.length ≤ 8796093022000
  ok : ∀ a, a ∈ [x.a, x.b] ++ x.args → a.ok
  op : in64 x.op
  d : in64 x.d
  n : in64 x.n
theorem InsIn.le {h1 h2 : Nat → Option Obj} (H : Hle h1 h2) {x : Ins} (h : InsIn h1 x) : InsIn h2 x := ⟨h.args.le H, h.len, h.ok, h.op, h.d, h.n⟩
structure CodeIn (h : Nat → Option Obj) (A : Option Addr) (l : List Ins) : Prop where
  row : Rd h Ins.cells 12 A l
  len : l.length ≤ 1256584717430
  all : ∀ x, x ∈ l → InsIn h x
theorem CodeIn.le {h1 h2 : Nat → Option Obj} (H : Hle h1 h2) {A : Option Addr} {l : List Ins} (h : CodeIn h1 A l) : CodeIn h2 A l := ⟨h.row.le H, h.len, fun x hx => (h.all x hx).le H⟩

def writesOp (op : Int) : Bool := op == 1 || op == 2 || op == 3 || op == 4 || op == 5 || op == 8 || op == 13
def Ins.writes (x : Ins) : Int := if writesOp x.op then max x.d (-1) else -1
end Go.Proofs.YtpohhfggmaihpaaGreatDoor
