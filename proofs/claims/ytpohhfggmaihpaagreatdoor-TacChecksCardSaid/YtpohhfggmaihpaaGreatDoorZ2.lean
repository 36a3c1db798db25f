/-
  Slices: what one owns, appends to, makes, cuts; what one reads of old memory.
  Rows of a library's contracts (Holds, putRow, grow) as memory of one's own.
  DERIVED: THE SHELF's CONTRACTS AT THIS DUMP, IN PLAIN WORDS (tools/lay-plain.mjs out of 'TryShelf.lean', which tools/lay-shelf.mjs wrote): THE SAME DECLARATIONS UNDER THE SAME NAMES: 'import', 'namespace', 'open', 'def', 'theorem' AND NOTHING ELSE: no command of the shelf's: FOR A HAND-IN. Each laying: the table of numbers ('.._ren') and one theorem, a field a fact of the dump's own or the kernel's comparison; each contract: ONE APPLICATION.
-/
import Derived.Test.YtpohhfggmaihpaaGreatDoorZ1
import Derived.Laws.AppendOwn
import Derived.Laws.MakeOwn
import Derived.Sort.Grow
import Derived.Lib.SlicesCompact
import Derived.Shelf.Sort.Plain
import Derived.Ground.Names2Prog
import Derived.Shelf.Slices.CompactI
import Derived.Shelf.Slices.Cells
import Derived.Shelf.Slices.In.SortNone
import Derived.Test.YtpohhfggmaihpaaGreatDoorProg

/- Slices: what one owns, appends to, makes, cuts; what one reads of old memory. -/
namespace Go.Wk
set_option linter.unusedVariables false
set_option linter.unusedSimpArgs false

/-- A slice of one's own: n elements of type e, of sz cells each, all cells xs; A is its memory. -/
def Own (e : TypeId) (sz : Nat) (v : Value) (n : Nat) (xs : List Value) (A : HL) : Prop :=
  xs.length = n * sz ∧ ((v = .slice none 0 0 ∧ n = 0 ∧ A = []) ∨ ∃ g cap rest, v = .slice (some ⟨g, 0, none⟩) n cap ∧ A = [(g, .cells ⟨xs ++ rest⟩ e (0, 0))] ∧ n ≤ cap ∧ cap ≤ maxLen ∧ (xs ++ rest).length = cap * sz)

theorem Own.nil (e : TypeId) (sz : Nat) : Own e sz (.slice none 0 0) 0 [] [] := ⟨by simp, .inl ⟨rfl, rfl, rfl⟩⟩
theorem Own.shape {e : TypeId} {sz : Nat} {v : Value} {n : Nat} {xs : List Value} {A : HL} (h : Own e sz v n xs A) : ∃ ad cap, v = .slice ad n cap ∧ (0 < n → ∃ g, ad = some ⟨g, 0, none⟩) := by
  rcases h.2 with ⟨rfl, rfl, rfl⟩ | ⟨g, cap, rest, rfl, _⟩
  · exact ⟨none, 0, rfl, fun h => by omega⟩
  · exact ⟨_, cap, rfl, fun _ => ⟨g, rfl⟩⟩
theorem Own.pos {e : TypeId} {sz : Nat} {v : Value} {n : Nat} {xs : List Value} {A : HL} (h : Own e sz v n xs A) (hn : 0 < n) :
    ∃ g cap rest, v = .slice (some ⟨g, 0, none⟩) n cap ∧ A = [(g, .cells ⟨xs ++ rest⟩ e (0, 0))] ∧ n ≤ cap ∧ cap ≤ maxLen ∧ (xs ++ rest).length = cap * sz := by
  rcases h.2 with ⟨_, h0, _⟩ | h
  · omega
  · exact h

theorem putC_append : ∀ (vs xs rest : List Value), vs.length ≤ rest.length → putC (xs ++ rest) xs.length vs = xs ++ vs ++ rest.drop vs.length
  | [], xs, rest, _ => by simp [putC]
  | v :: vs, xs, [], h => by simp at h
  | v :: vs, xs, r :: rest, h => by
    simp only [putC]
    rw [List.set_append_right _ _ (Nat.le_refl _)]
    simp only [Nat.sub_self, List.set_cons_zero]
    have ih := putC_append vs (xs ++ [v]) rest (by simpa using h)
    simp only [List.append_assoc, List.singleton_append, List.length_append, List.length_singleton] at ih
    simpa using ih

theorem nextcap_le {n c : Nat} (h : c < n) : Builtin.nextslicecap n c ≤ 2 * n := by
  unfold Builtin.nextslicecap
  split
  · omega
  · split
    · omega
    · have key : ∀ (r c : Nat), c ≤ 2 * n → 256 ≤ n → Builtin.growBy n r c ≤ 2 * n := by
        intro r
        induction r with
        | zero => intro c hc _; simpa [Builtin.growBy] using hc
        | succ r ih =>
          intro c hc hn
          simp only [Builtin.growBy]
          split
          · exact hc
          · exact ih _ (by omega) hn
      exact key _ _ (by omega) (by omega)

theorem run_append {P : Program} {t e : TypeId} {z : Value} {s b : Nat} {te : Ti} (ht : tiOf P t = some ⟨.slice e, z, s, b⟩) (hte : tiOf P e = some te) (hsz : 0 < te.sz) (hz : te.z.cells.size = te.sz)
    {v : Value} {n : Nat} {xs : List Value} {A : HL} {w : World} (hown : Own e te.sz v n xs A) (hA : ∀ g o, (g, o) ∈ A → w.heap[g]? = some o)
    {yA : Option Addr} {m c : Nat} {news : List Value} (hl : news.length = m * te.sz) (hn : ∀ j u, news[j]? = some u → ∃ a, yA = some a ∧ w.cell? (a.add j) = some u) (h1 : ∀ u ∈ news, u.oneCell' = true)
    (hmax : n + m ≤ maxLen) (hbytes : (n + m) * te.by' ≤ 140737488355328) (ty : TypeId) :
    ∃ v' A' w', (Builtin.append_ #[t, t] ty #[v, .slice yA m c]).run P w = .ok v' w' ∧ Own e te.sz v' (n + m) (xs ++ news) A' ∧ Eff w A w' A' := by
  obtain ⟨d, i, hd, hi, hk, hzz, hs, hb⟩ := tiOf_spec hte
  have hu := tk_slice ht
  have hsi : 0 < i.size := by rw [hs]; exact hsz
  have hlx : news.length = m * i.size := by rw [hs]; exact hl
  have hmx : n + m ≤ 9223372036854775807 := by unfold maxLen at hmax; omega
  have hbi : (n + m) * i.bytes ≤ 140737488355328 := by rw [hb]; exact hbytes
  -- nothing appended
  by_cases hm0 : m = 0
  · subst hm0
    have hnews : news = [] := List.eq_nil_of_length_eq_zero (by simpa using hl)
    subst hnews
    refine ⟨v, A, w, ?_, by simpa using hown, Eff.start w A hA ?_⟩
    · rcases hown.2 with ⟨rfl, rfl, rfl⟩ | ⟨g, cap, rest, rfl, rfl, h2, h3, h4⟩
      · cases yA <;> simp [Builtin.append_, run_underlying hu, sizeOf, typeInfo, hi, Builtin.lenOf, Builtin.firstCells, loadCells, loadCellsFrom]
      · cases yA <;> simp [Builtin.append_, run_underlying hu, sizeOf, typeInfo, hi, Builtin.lenOf, h2, Builtin.firstCells, loadCells, loadCellsFrom, storeCells]
    · rcases hown.2 with ⟨rfl, rfl, rfl⟩ | ⟨g, cap, rest, rfl, rfl, h2, h3, h4⟩ <;> simp [ids]
  -- something
  have hpos : 0 < news.length := by rw [hl]; exact Nat.mul_pos (Nat.pos_of_ne_zero hm0) hsz
  obtain ⟨a, ha, _⟩ := hn 0 news[0] (List.getElem?_eq_getElem hpos)
  subst ha
  have hnews : ∀ j u, news[j]? = some u → w.cell? (a.add j) = some u := fun j u hj => by
    obtain ⟨a', ha', h⟩ := hn j u hj
    obtain rfl := Option.some.inj ha'
    exact h
  have hlen : (xs ++ news).length = (n + m) * te.sz := by rw [List.length_append, hown.1, hl, Nat.add_mul]
  have grown : ∀ old, old < n + m → (A' : HL) → (∀ g o, (g, o) ∈ A' → w.heap[g]? = some o) → (ids A').Nodup →
      Own e te.sz (.slice (some ⟨w.heap.size, 0, none⟩) (n + m) (grownCap w (n + m) old e)) (n + m) (xs ++ news) [(w.heap.size, .cells ⟨(xs ++ news) ++ (Builtin.zeroCells te.z.cells (grownCap w (n + m) old e - (n + m))).toList⟩ e (0, 0))] ∧
      Eff w A' (w.drew.alloc (.cells ⟨(xs ++ news) ++ (Builtin.zeroCells te.z.cells (grownCap w (n + m) old e - (n + m))).toList⟩ e)) [(w.heap.size, .cells ⟨(xs ++ news) ++ (Builtin.zeroCells te.z.cells (grownCap w (n + m) old e - (n + m))).toList⟩ e (0, 0))] := by
    intro old ho A' hA' hnd
    have hge := grownCap_ge w (n + m) old e
    have hcm := grownCap_le_maxLen w (n + m) old e hmax
    refine ⟨⟨hlen, .inr ⟨_, _, _, rfl, rfl, hge, hcm, ?_⟩⟩, ?_⟩
    · rw [List.length_append, hlen, Array.length_toList, size_zeroCells, hz, ← Nat.add_mul]
      congr 1; omega
    · have E := Eff.seq0 (Eff.start w A' hA' hnd) (Eff.drew w)
      simp only [List.nil_append] at E
      have E2 := Eff.seq0 E (Eff.alloc w.drew (.cells ⟨(xs ++ news) ++ (Builtin.zeroCells te.z.cells (grownCap w (n + m) old e - (n + m))).toList⟩ e))
      exact Eff.sel E2 A' (List.Perm.refl _)
  rcases hown.2 with ⟨rfl, rfl, rfl⟩ | ⟨g, cap, rest, rfl, rfl, h2, h3, h4⟩
  · have hx : xs = [] := List.eq_nil_of_length_eq_zero (by simpa using hown.1)
    subst hx
    have hr := run_append_nil (P := P) w t ty e i te.z hu hi hzz a m c news hlx hnews (by omega) (by omega) (by simp only [Nat.zero_add] at hbi; omega)
    obtain ⟨g1, g2⟩ := grown 0 (by omega) [] (fun _ _ h => by cases h) (by simp [ids])
    simp only [Nat.zero_add, List.nil_append] at g1 g2 ⊢
    refine ⟨_, _, _, hr, g1, ?_⟩
    have e1 : (news.toArray ++ Builtin.zeroCells te.z.cells (grownCap w m 0 e - m)) = ⟨news ++ (Builtin.zeroCells te.z.cells (grownCap w m 0 e - m)).toList⟩ := by apply Array.ext'; simp
    rw [e1]
    exact g2
  · have hg := hA g _ List.mem_cons_self
    by_cases hroom : n + m ≤ cap
    · -- there is room
      have hrl : news.length ≤ rest.length := by
        have h5 : xs.length + rest.length = cap * te.sz := by simpa using h4
        rw [hown.1] at h5
        have h6 : (n + m) * te.sz ≤ cap * te.sz := Nat.mul_le_mul_right _ hroom
        rw [Nat.add_mul] at h6
        omega
      obtain ⟨w', hst, E⟩ := run_storeCells (P := P) (e := e) news (xs ++ rest) xs.length 0 w hg (by simp; omega) h1
      simp only [Nat.add_zero] at E
      rw [putC_append news xs rest hrl] at E
      refine ⟨.slice (some ⟨g, 0, none⟩) (n + m) cap, _, w', ?_, ⟨hlen, .inr ⟨g, cap, rest.drop news.length, rfl, rfl, hroom, h3, ?_⟩⟩, E⟩
      · have hf := run_firstCells_some (P := P) w i.size m a m c news hlx hnews
        have hxs : xs.length = n * i.size := by rw [hs]; exact hown.1
        rw [hxs] at hst
        simp [Builtin.append_, run_underlying hu, sizeOf, typeInfo, hi, Builtin.lenOf, hroom, hf, addr_add, hst]
      · have h5 : xs.length + rest.length = cap * te.sz := by simpa using h4
        simp only [List.length_append, List.length_drop]
        omega
    · -- it grows
      have hxl : xs.length = n * i.size := by rw [hs]; exact hown.1
      have hcells : ∀ j u, xs[j]? = some u → w.cell? ((⟨g, 0, none⟩ : Addr).add j) = some u := fun j u hj => by
        rw [addr_add]
        have hj' : j < xs.length := (List.getElem?_eq_some_iff.1 hj).1
        simp only [World.cell?, hg, Nat.zero_add]
        simp [List.getElem?_append_left hj', hj]
      have hfit : Builtin.nextslicecap (n + m) cap * i.bytes ≤ 281474976710656 := by
        have h5 := nextcap_le (n := n + m) (c := cap) (by omega)
        have h6 : Builtin.nextslicecap (n + m) cap * i.bytes ≤ 2 * (n + m) * i.bytes := Nat.mul_le_mul_right _ h5
        rw [Nat.mul_assoc] at h6
        omega
      have hr := run_append_grow (P := P) w t ty e i te.z hu hi hzz ⟨g, 0, none⟩ n cap xs hxl hcells a m c news hlx hnews (by omega) (by omega) hfit
      obtain ⟨g1, g2⟩ := grown cap (by omega) [(g, .cells ⟨xs ++ rest⟩ e (0, 0))] hA (by simp [ids])
      refine ⟨_, _, _, hr, g1, ?_⟩
      have e1 : (xs.toArray ++ news.toArray ++ Builtin.zeroCells te.z.cells (grownCap w (n + m) cap e - (n + m))) = ⟨(xs ++ news) ++ (Builtin.zeroCells te.z.cells (grownCap w (n + m) cap e - (n + m))).toList⟩ := by apply Array.ext'; simp
      rw [e1]
      exact g2

section
variable {X : Cx} {ops : Array Oper} {Q : Post} {rest : List Oper} {L : LT} {R : RL} {d : Nat} {x y : Operand} {t ty : TypeId} {p : String} {af : Array Edge} {v : Value}

theorem lk_hd (d : Nat) (v : Value) (L : LT) : lk ((d, v) :: L) d = some v := by simp [lk]

/-- append(s, more...): s is number i of what one owns. -/
theorem g_app (i : Nat) {A : HL} {e : TypeId} {z : Value} {s b : Nat} {te : Ti} {n : Nat} {xs news : List Value} {yA : Option Addr} {m c : Nat}
    (hR : R[i]? = some A) (hx : ev L x = some v) (hy : ev L y = some (.slice yA m c)) (ht : tl X.s.tab t = some ⟨.slice e, z, s, b⟩) (hte : tl X.s.tab e = some te) (hsz : Nat.blt 0 te.sz = true) (hz : te.z.cells.size = te.sz)
    (hown : Own e te.sz v n xs A) (hl : news.length = m * te.sz) (hn : ∀ w, Hp X w R → ∀ j u, news[j]? = some u → ∃ a, yA = some a ∧ w.cell? (a.add j) = some u) (h1 : ∀ u ∈ news, u.oneCell' = true)
    (hmax : n + m ≤ maxLen) (hbytes : (n + m) * te.by' ≤ 140737488355328) (hN : Nat.blt d X.N = true)
    (k : ∀ v' A', Own e te.sz v' (n + m) (xs ++ news) A' → G X ops Q rest ((d, v') :: L) (R.set i A')) :
    G X ops Q (⟨some d, .call ⟨.builtin .append, #[x, y], #[t, t]⟩, ty, p, af, none⟩ :: rest) L R :=
  g_run (Y := Value × HL) (fun q => q.1) (fun q => R.set i q.2) (fun q => Own e te.sz q.1 (n + m) (xs ++ news) q.2) rfl rfl hN (by intro c h; cases h)
    (fun a w ha hE => by
      have H1 := hp_pick i hR hE
      obtain ⟨v', A', w', hr, ho, E⟩ := run_append (X.s.ok.at ht) (X.s.ok.at hte) (show 0 < te.sz from Nat.le_of_ble_eq_true hsz) hz hown (fun g o hg => H1.holds g o (List.mem_append_left _ hg)) hl (c := c) (hn w hE) h1 hmax hbytes ty
      refine ⟨(v', A'), w', ?_, hp_front i hR hE E, ho⟩
      simp only [execOp]
      simp [resolve, invoke, builtin, ha.kn.ev hx, ha.kn.ev hy, hr]) (fun q hq => k q.1 q.2 hq)

/-! ### A slice that is written out -/
def rep (n : Nat) (l : List Value) : List Value := (List.replicate n l).flatten

theorem zeros_rep (z : Array Value) (n : Nat) : ((Array.range (n * z.size)).map (fun i => z[i % z.size]!)).toList = rep n z.toList := by
  induction n with
  | zero => simp [rep]
  | succ n ih =>
    have e1 : rep (n + 1) z.toList = rep n z.toList ++ z.toList := by
      unfold rep
      rw [List.replicate_succ', List.flatten_append]; simp
    rw [e1, ← ih]
    simp only [Array.toList_map, Array.toList_range, Nat.succ_mul]
    rw [List.range_add, List.map_append, List.map_map]
    congr 1
    apply List.ext_getElem
    · simp
    · intro i h1 h2
      simp at h1 h2
      simp [Nat.mod_eq_of_lt h2, h2]

/-- '[]T{..}' of len elements whose cells are cs. -/
theorem run_buildSlice {P : Program} {t e : TypeId} {z : Value} {s b : Nat} {te : Ti} (ht : tiOf P t = some ⟨.slice e, z, s, b⟩) (hte : tiOf P e = some te) (len : Nat) (parts : Array (Nat × Value)) (cs : Array Value)
    (hf : Instr.fill (fun i => some (i * te.sz, te.sz)) ((Array.range (len * te.sz)).map (fun i => te.z.cells[i % te.z.cells.size]!)) parts.toList = some cs) (hsmall : len * te.sz ≤ 2 ^ 24) (hpos : len * te.sz ≠ 0) (w : World) :
    (Instr.buildSlice t len parts).run P w = .ok (.slice (some ⟨w.heap.size, 0, none⟩) len len) (w.alloc (.cells cs e)) := by
  have h1 : ¬ (len * te.sz > 2 ^ 24) := by omega
  simp only [Instr.buildSlice, Sem.run_bind, run_underlying (tk_slice ht), Result.andThen_ok, run_sizeOf hte, h1, if_false, hpos, run_zeroValue hte, run_pure', hf]
  rfl

theorem g_lit {e : TypeId} {z : Value} {s b : Nat} {te : Ti} {len : Nat} {parts : Array (Nat × Operand)} {vs : List Value} {cs : List Value} (ht : tl X.s.tab t = some ⟨.slice e, z, s, b⟩) (hte : tl X.s.tab e = some te)
    (hv : evs L (parts.toList.map (·.2)) = some vs) (hf : Instr.fill (fun i => some (i * te.sz, te.sz)) ((Array.range (len * te.sz)).map (fun i => te.z.cells[i % te.z.cells.size]!)) ((parts.toList.map (·.1)).zip vs) = some ⟨cs⟩)
    (hsmall : Nat.ble (len * te.sz) (2 ^ 24) = true) (hpos : Nat.beq (len * te.sz) 0 = false) (hN : Nat.blt d X.N = true)
    (k : ∀ g, G X ops Q rest ((d, .slice (some ⟨g, 0, none⟩) len len) :: L) ([(g, .cells ⟨cs⟩ e (0, 0))] :: R)) :
    G X ops Q (⟨some d, .buildSlice t len parts, ty, p, af, none⟩ :: rest) L R :=
  g_run (Y := Nat) (fun g => .slice (some ⟨g, 0, none⟩) len len) (fun g => [(g, .cells ⟨cs⟩ e (0, 0))] :: R) (fun _ => True) rfl rfl hN (by intro c h; cases h)
    (fun a w ha hE => by
      have hp : (parts.map fun (i, x) => (i, a.eval x)).toList = (parts.toList.map (·.1)).zip vs := by
        have h1 := evs_map (fun x u h => ha.kn.ev h) hv
        rw [← h1]
        simp only [Array.toList_map, List.map_map]
        generalize parts.toList = l
        induction l with
        | nil => rfl
        | cons q l ih => simp only [List.map_cons, List.zip_cons_cons, ih]; rfl
      have hr := run_buildSlice (P := X.s.P) (X.s.ok.at ht) (X.s.ok.at hte) len (parts.map fun (i, x) => (i, a.eval x)) ⟨cs⟩ (by rw [hp]; exact hf) (Nat.le_of_ble_eq_true hsmall) (Nat.ne_of_beq_eq_false hpos) w
      refine ⟨w.heap.size, _, ?_, hp_alloc hE _, trivial⟩
      simp only [execOp]
      rw [Sem.run_bind]
      have e2 : (parts.map fun (x : Nat × Operand) => (x.1, a.eval x.2)) = (parts.map fun (i, x) => (i, a.eval x)) := rfl
      rw [hr]; rfl) (fun g _ => k g)

theorem foldl_put : ∀ (l : List Value) (k o : Nat) (cs : Array Value), (l.zipIdx k).foldl (fun (cs : Array Value) (x : Value × Nat) => cs.setIfInBounds (o + x.2) x.1) cs = (putC cs.toList (o + k) l).toArray
  | [], k, o, cs => by simp [putC]
  | v :: l, k, o, cs => by
    simp only [List.zipIdx_cons, List.foldl_cons, putC]
    rw [foldl_put l (k + 1) o]
    simp [Nat.add_assoc]

theorem fill_seq {sz : Nat} : ∀ (vs : List Value) (k : Nat) (done rest : List Value), (∀ v ∈ vs, v.cells.size = sz) → done.length = k * sz → vs.length * sz ≤ rest.length →
    Instr.fill (fun i => some (i * sz, sz)) ⟨done ++ rest⟩ ((List.range' k vs.length).zip vs) = some ⟨done ++ (vs.map (·.cells.toList)).flatten ++ rest.drop (vs.length * sz)⟩
  | [], k, done, rest, _, _, _ => by simp [Instr.fill]
  | v :: vs, k, done, rest, hv, hd, hr => by
    have hsv := hv v List.mem_cons_self
    simp only [List.length_cons, Nat.add_mul, Nat.one_mul] at hr
    simp only [List.length_cons, List.range'_succ, List.zip_cons_cons, Instr.fill]
    have hsize : ((⟨done ++ rest⟩ : Array Value)).size = done.length + rest.length := by simp
    have h1 : ¬ (v.cells.size ≠ sz) := by simp [hsv]
    have h2 : ¬ (k * sz + v.cells.size > ((⟨done ++ rest⟩ : Array Value)).size) := by rw [hsize]; omega
    rw [if_neg (by simp only [Bool.or_eq_true, decide_eq_true_eq, not_or]; exact ⟨h1, h2⟩)]
    have e1 : v.cells.zipIdx.foldl (fun cs (x : Value × Nat) => cs.setIfInBounds (k * sz + x.2) x.1) (⟨done ++ rest⟩ : Array Value) = ⟨(done ++ v.cells.toList) ++ rest.drop sz⟩ := by
      have h5 : v.cells.zipIdx.foldl (fun cs (x : Value × Nat) => cs.setIfInBounds (k * sz + x.2) x.1) (⟨done ++ rest⟩ : Array Value) = (v.cells.toList.zipIdx 0).foldl (fun cs (x : Value × Nat) => cs.setIfInBounds (k * sz + x.2) x.1) (⟨done ++ rest⟩ : Array Value) := by
        rw [← Array.foldl_toList]; simp
      rw [h5, foldl_put]
      have h6 : putC (done ++ rest) (k * sz + 0) v.cells.toList = done ++ v.cells.toList ++ rest.drop v.cells.toList.length := by
        rw [Nat.add_zero, ← hd]; exact putC_append _ _ _ (by simp; omega)
      simp only [h6]
      simp [hsv]
    have ih := fill_seq vs (k + 1) (done ++ v.cells.toList) (rest.drop sz) (fun u hu => hv u (List.mem_cons_of_mem _ hu)) (by rw [List.length_append, hd, Array.length_toList, hsv, Nat.add_mul]; omega) (by rw [List.length_drop]; omega)
    have e2 : (v.cells.zipIdx.foldl (fun cs (x : Value × Nat) => match x with | (c, j) => cs.setIfInBounds (k * sz + j) c) (⟨done ++ rest⟩ : Array Value)) = ⟨(done ++ v.cells.toList) ++ rest.drop sz⟩ := e1
    rw [e2, ih]
    simp only [List.map_cons, List.flatten_cons, List.append_assoc, List.drop_drop, Option.some.injEq, Array.mk.injEq, List.append_cancel_left_eq]
    rw [show sz + vs.length * sz = (vs.length + 1) * sz from by rw [Nat.add_mul]; omega]

theorem fill_all {sz : Nat} (z : Array Value) (hz : z.size = sz) (vs : List Value) (hv : ∀ v ∈ vs, v.cells.size = sz) :
    Instr.fill (fun i => some (i * sz, sz)) ((Array.range (vs.length * sz)).map (fun i => z[i % z.size]!)) ((List.range vs.length).zip vs) = some ⟨(vs.map (·.cells.toList)).flatten⟩ := by
  have h := fill_seq (sz := sz) vs 0 [] ((Array.range (vs.length * sz)).map (fun i => z[i % z.size]!)).toList hv (by simp) (by simp)
  have h' : Instr.fill (fun i => some (i * sz, sz)) ((Array.range (vs.length * sz)).map (fun i => z[i % z.size]!)) ((List.range' 0 vs.length).zip vs) = _ := h
  rw [List.range_eq_range', h']
  have : List.drop (vs.length * sz) ((Array.range (vs.length * sz)).map (fun i => z[i % z.size]!)).toList = [] := by
    apply List.drop_eq_nil_of_le; simp
  rw [this]; simp


/-- A literal whose elements are all written. -/
theorem g_litL {X : Cx} {ops : Array Oper} {Q : Post} {rest : List Oper} {L : LT} {R : RL} {d : Nat} {t ty : TypeId} {p : String} {af : Array Edge} {e : TypeId} {z : Value} {s b : Nat} {te : Ti} {len : Nat} {parts : Array (Nat × Operand)} {vs : List Value} (ht : tl X.s.tab t = some ⟨.slice e, z, s, b⟩) (hte : tl X.s.tab e = some te)
    (hv : evs L (parts.toList.map (·.2)) = some vs) (hi : parts.toList.map (·.1) = List.range len) (hz : te.z.cells.size = te.sz) (hc : (vs.all fun v => Nat.beq v.cells.size te.sz) = true) (hlen : vs.length = len)
    (hsmall : Nat.ble (len * te.sz) (2 ^ 24) = true) (hpos : Nat.beq (len * te.sz) 0 = false) (hN : Nat.blt d X.N = true)
    (k : ∀ g, G X ops Q rest ((d, .slice (some ⟨g, 0, none⟩) len len) :: L) ([(g, .cells ⟨(vs.map (·.cells.toList)).flatten⟩ e (0, 0))] :: R)) :
    G X ops Q (⟨some d, .buildSlice t len parts, ty, p, af, none⟩ :: rest) L R := by
  subst hlen
  refine g_lit ht hte hv ?_ hsmall hpos hN k
  rw [hi]
  exact fill_all te.z.cells hz vs (fun v hv' => Nat.eq_of_beq_eq_true (List.all_eq_true.1 hc v hv'))

/-- '[]T{}'. -/
theorem g_lit0 {e : TypeId} {z : Value} {s b : Nat} {te : Ti} (ht : tl X.s.tab t = some ⟨.slice e, z, s, b⟩) (hte : tl X.s.tab e = some te) (hN : Nat.blt d X.N = true)
    (k : ∀ g, G X ops Q rest ((d, .slice (some ⟨g, 0, none⟩) 0 0) :: L) ([(g, .cells ⟨[]⟩ e (0, 0))] :: R)) :
    G X ops Q (⟨some d, .buildSlice t 0 #[], ty, p, af, none⟩ :: rest) L R :=
  g_run (Y := Nat) (fun g => .slice (some ⟨g, 0, none⟩) 0 0) (fun g => [(g, .cells ⟨[]⟩ e (0, 0))] :: R) (fun _ => True) rfl rfl hN (by intro c h; cases h)
    (fun a w ha hE => by
      refine ⟨w.heap.size, w.alloc (.cells ⟨[]⟩ e), ?_, hp_alloc hE _, trivial⟩
      simp only [execOp]
      simp only [Instr.buildSlice, Sem.run_bind, run_underlying (tk_slice (X.s.ok.at ht)), Result.andThen_ok, run_sizeOf (X.s.ok.at hte), Nat.zero_mul, run_pure']
      rw [if_neg (by decide), if_pos trivial]
      simp only [Sem.run_bind, run_pure', Result.andThen_ok, List.map_toArray, List.map_nil, Instr.fill]
      have e0 : Array.map (fun x => (#[] : Array Value)[x % (#[] : Array Value).size]!) (Array.range 0) = ⟨[]⟩ := by apply Array.ext'; simp
      rw [e0]; rfl) (fun g _ => k g)

/-- append(s, x): two operations. -/
theorem g_app1 (i : Nat) {d1 : Nat} {ty1 : TypeId} {p1 : String} {af1 : Array Edge} {A : HL} {e : TypeId} {z : Value} {s b : Nat} {te : Ti} {n : Nat} {xs : List Value} {u : Value} {cs : List Value}
    (hR : R[i]? = some A) (hx : ev L x = some v) (hd : (match x with | .tmp t => Nat.beq d1 t | _ => false) = false) (hy : ev L y = some u) (ht : tl X.s.tab t = some ⟨.slice e, z, s, b⟩) (hte : tl X.s.tab e = some te) (hsz : Nat.blt 0 te.sz = true) (hz : te.z.cells.size = te.sz)
    (hf : u.cells = ⟨cs⟩) (hsmall : Nat.ble (1 * te.sz) (2 ^ 24) = true)
    (hl : cs.length = te.sz) (h1 : ∀ c ∈ cs, c.oneCell' = true)
    (hown : Own e te.sz v n xs A) (hmax : n + 1 ≤ maxLen) (hbytes : (n + 1) * te.by' ≤ 140737488355328) (hN1 : Nat.blt d1 X.N = true) (hN : Nat.blt d X.N = true)
    (k : ∀ v' A' g, Own e te.sz v' (n + 1) (xs ++ cs) A' → G X ops Q rest ((d, v') :: (d1, .slice (some ⟨g, 0, none⟩) 1 1) :: L) (R.set i A')) :
    G X ops Q (⟨some d1, .buildSlice t 1 #[(0, y)], ty1, p1, af1, none⟩ :: ⟨some d, .call ⟨.builtin .append, #[x, .tmp d1], #[t, t]⟩, ty, p, af, none⟩ :: rest) L R := by
  have hpos : Nat.beq (1 * te.sz) 0 = false := by
    have : 0 < te.sz := Nat.le_of_ble_eq_true hsz
    rw [Nat.one_mul]
    cases h : te.sz with
    | zero => omega
    | succ n => rfl
  refine g_lit (vs := [u]) (cs := cs) ht hte (by simp [evs, hy]) ?_ hsmall hpos hN1 (fun g => ?_)
  · have h := fill_all te.z.cells hz [u] (fun v hv => by
      simp only [List.mem_singleton] at hv; subst hv; rw [hf]; exact hl)
    rw [show ([u].map (·.cells.toList)).flatten = cs from by simp [hf]] at h
    exact h
  refine g_app (i + 1) (v := v) (c := 1) (yA := some ⟨g, 0, none⟩) (by simpa using hR) ?_ (lk_hd d1 _ L) ht hte hsz hz hown (m := 1) (news := cs) (by simp [hl]) (fun w hE j c hj => ⟨_, rfl, ?_⟩) h1 hmax hbytes hN (fun v' A' ho => ?_)
  · cases x with
    | tmp t' =>
      show lk ((d1, _) :: L) t' = _
      simp only [lk]
      rw [show Nat.beq d1 t' = false from hd]
      exact hx
    | const _ => exact hx
    | global _ => exact hx
    | func _ => exact hx
  · have hb := hp_cell (i := 0) hE rfl
    rw [addr_add]
    simp only [World.cell?, hb, Nat.zero_add]
    simpa using hj
  · exact g_heap (fun w H => hp_tail (by simpa using H)) (k v' A' g ho)

/-- make([]T, n, c). -/
theorem run_mk {P : Program} {t e : TypeId} {z : Value} {s b : Nat} {te : Ti} (ht : tiOf P t = some ⟨.slice e, z, s, b⟩) (hte : tiOf P e = some te) (k1 k2 : IntKind) (n c : Nat) (hnc : n ≤ c) (hb : te.by' * c ≤ 281474976710656) (hc : c ≤ 9223372036854775807) (w : World) :
    (Instr.makeSlice t (.int k1 n) (.int k2 c)).run P w = .ok (.slice (some ⟨w.heap.size, 0, none⟩) n c) (w.alloc (.cells (madeCells te.z.cells (c * te.sz)) e)) := by
  obtain ⟨d, i, hd, hi, hk, hzz, hs, hb'⟩ := tiOf_spec hte
  have := run_make (P := P) w t e i te.z (tk_slice ht) hi hzz k1 k2 n c (Int.natCast_nonneg n) (Int.ofNat_le.2 hnc) (by rw [hb']; have h := Int.ofNat_le.2 hb; rw [Int.natCast_mul] at h; exact h) (Int.ofNat_le.2 hc)
  rw [hs] at this
  simp only [Int.toNat_natCast] at this
  exact this

theorem g_make {e : TypeId} {z : Value} {s b : Nat} {te : Ti} {k1 k2 : IntKind} {n c : Nat} (hx : ev L x = some (.int k1 n)) (hy : ev L y = some (.int k2 c)) (ht : tl X.s.tab t = some ⟨.slice e, z, s, b⟩) (hte : tl X.s.tab e = some te)
    (hz : te.z.cells.size = te.sz) (hnc : n ≤ c) (hb : te.by' * c ≤ 281474976710656) (hc : c ≤ 9223372036854775807) (hN : Nat.blt d X.N = true)
    (k : ∀ g, G X ops Q rest ((d, .slice (some ⟨g, 0, none⟩) n c) :: L) ([(g, .cells ⟨rep c te.z.cells.toList⟩ e (0, 0))] :: R)) :
    G X ops Q (⟨some d, .makeSlice t x y, ty, p, af, none⟩ :: rest) L R :=
  g_run (Y := Nat) (fun g => .slice (some ⟨g, 0, none⟩) n c) (fun g => [(g, .cells ⟨rep c te.z.cells.toList⟩ e (0, 0))] :: R) (fun _ => True) rfl rfl hN (by intro c h; cases h)
    (fun a w ha hE => by
      have hr := run_mk (X.s.ok.at ht) (X.s.ok.at hte) k1 k2 n c hnc hb hc w
      have e1 : madeCells te.z.cells (c * te.sz) = ⟨rep c te.z.cells.toList⟩ := by
        apply Array.ext'
        show (madeCells te.z.cells (c * te.sz)).toList = rep c te.z.cells.toList
        rw [← zeros_rep, hz]; simp only [madeCells, hz]
      rw [e1] at hr
      refine ⟨w.heap.size, _, ?_, hp_alloc hE _, trivial⟩
      simp only [execOp]
      rw [ha.kn.ev hx, ha.kn.ev hy, Sem.run_bind, hr]; rfl) (fun g _ => k g)

theorem rep_one (n : Nat) (v : Value) : rep n [v] = List.replicate n v := by
  induction n with
  | zero => rfl
  | succ n ih => unfold rep at ih ⊢; rw [List.replicate_succ, List.flatten_cons, ih]; rfl

/-- s[:h]. -/
theorem p_hi {e : TypeId} {z : Value} {s b : Nat} {te : Ti} {ik : IntKind} {A : Option Addr} {n c : Nat} {h : Nat} (hx : ev L x = some (.slice A n c)) (hy : ev L y = some (.int ik h)) (ht : tl X.s.tab t = some ⟨.slice e, z, s, b⟩) (hte : tl X.s.tab e = some te)
    (hh : h ≤ c) : PR X.s.P L (⟨some d, .slice t x none (some y) none, ty, p, af, none⟩ : Oper) (.slice A h c) :=
  fun ρ w hv => by
    have hu := tk_slice (X.s.ok.at ht)
    have h1 : (0 : Int) ≤ h ∧ (h : Int) ≤ c := by omega
    have h2 : A.map (·.add 0) = A := by cases A <;> simp [Addr.add]
    simp only [execOp, Option.map, hv x _ hx, hv y _ hy]
    simp [Instr.sliceAt, Instr.slice, run_underlying hu, Instr.sliceBounds, Instr.sliceBound, asIntOf, h1, run_sizeOf (X.s.ok.at hte), h2, hh]
theorem g_hi {e : TypeId} {z : Value} {s b : Nat} {te : Ti} {ik : IntKind} {A : Option Addr} {n c : Nat} {h : Nat} (hx : ev L x = some (.slice A n c)) (hy : ev L y = some (.int ik h)) (ht : tl X.s.tab t = some ⟨.slice e, z, s, b⟩) (hte : tl X.s.tab e = some te)
    (hh : h ≤ c) (hN : Nat.blt d X.N = true) (k : G X ops Q rest ((d, .slice A h c) :: L) R) : G X ops Q (⟨some d, .slice t x none (some y) none, ty, p, af, none⟩ :: rest) L R :=
  g_p (p_hi hx hy ht hte hh) hN k
/-- s[l:]. -/
theorem p_lo {e : TypeId} {z : Value} {s b : Nat} {te : Ti} {ik : IntKind} {A : Option Addr} {n c : Nat} {l : Nat} (hx : ev L x = some (.slice A n c)) (hy : ev L y = some (.int ik l)) (ht : tl X.s.tab t = some ⟨.slice e, z, s, b⟩) (hte : tl X.s.tab e = some te)
    (hl : l ≤ n) : PR X.s.P L (⟨some d, .slice t x (some y) none none, ty, p, af, none⟩ : Oper) (.slice (if c = l then A else A.map (·.add (l * te.sz))) (n - l) (c - l)) :=
  fun ρ w hv => by
    have hu := tk_slice (X.s.ok.at ht)
    have h1 : (0 : Int) ≤ l ∧ (l : Int) ≤ n := by omega
    simp only [execOp, Option.map, hv x _ hx, hv y _ hy]
    simp [Instr.sliceAt, Instr.slice, run_underlying hu, Instr.sliceBounds, Instr.sliceBound, asIntOf, h1, run_sizeOf (X.s.ok.at hte), hl]
    cases A <;> rfl
theorem g_lo {e : TypeId} {z : Value} {s b : Nat} {te : Ti} {ik : IntKind} {A : Option Addr} {n c : Nat} {l : Nat} (hx : ev L x = some (.slice A n c)) (hy : ev L y = some (.int ik l)) (ht : tl X.s.tab t = some ⟨.slice e, z, s, b⟩) (hte : tl X.s.tab e = some te)
    (hl : l ≤ n) (hN : Nat.blt d X.N = true) (k : G X ops Q rest ((d, .slice (if c = l then A else A.map (·.add (l * te.sz))) (n - l) (c - l)) :: L) R) : G X ops Q (⟨some d, .slice t x (some y) none none, ty, p, af, none⟩ :: rest) L R :=
  g_p (p_lo hx hy ht hte hl) hN k

/-! ### A test -/
theorem gc_cond_t {c : Operand} {a b : Code} (hc : ev L c = some (.bool true)) (h : GC X a Q L R) : GC X (.cond c a b) Q L R :=
  gc_cond hc (fun _ => h) (fun h => by cases h)
theorem gc_cond_f {c : Operand} {a b : Code} (hc : ev L c = some (.bool false)) (h : GC X b Q L R) : GC X (.cond c a b) Q L R :=
  gc_cond hc (fun h => by cases h) (fun _ => h)
theorem ok_put {X : Cx} {a : Act} {L : LT} (ha : Ok X a L) {t : Nat} {v : Value} (hv : lk L t = some v) : Ok X a ((t, v) :: L) := by
  refine ⟨ha.size, ha.defers, fun i u hi => ?_⟩
  simp only [lk] at hi
  by_cases hj : Nat.beq t i = true
  · rw [hj] at hi
    have := Nat.eq_of_beq_eq_true hj
    subst this
    exact ha.kn _ _ (by rw [hv]; exact hi)
  · simp only [Bool.not_eq_true] at hj
    rw [hj] at hi
    exact ha.kn _ _ hi
/-- It parts; the slot then holds what is known. -/
theorem gc_condC {t : Tmp} {b : Bool} {x y : Code} (hc : lk L t = some (.bool b)) (ht : b = true → GC X x Q ((t, .bool true) :: L) R) (hf : b = false → GC X y Q ((t, .bool false) :: L) R) : GC X (.cond (.tmp t) x y) Q L R :=
  gc_cond hc (fun h a w ha hE => ht h a w (ok_put ha (by rw [hc, h])) hE) (fun h a w ha hE => hf h a w (ok_put ha (by rw [hc, h])) hE)
/-- A slot's value in other words. -/
theorem g_eq (t : Nat) {u u' : Value} (h : lk L t = some u) (e : u = u') (k : G X ops Q rest ((t, u') :: L) R) : G X ops Q rest L R :=
  fun a w ha hE => k a w (ok_put ha (by rw [h, e])) hE
theorem gc_eq {c : Code} (t : Nat) {u u' : Value} (h : lk L t = some u) (e : u = u') (k : GC X c Q ((t, u') :: L) R) : GC X c Q L R :=
  fun a w ha hE => k a w (ok_put ha (by rw [h, e])) hE

/-! ### Elements -/
/-- Old memory holds a row. -/
def Rd {α : Type} (h : Nat → Option Obj) (f : α → List Value) (sz : Nat) (A : Option Addr) (l : List α) : Prop :=
  ∀ i x, l[i]? = some x → ∃ b o, A = some ⟨b, o, none⟩ ∧ ∀ j u, (f x)[j]? = some u → cellAt h b (o + i * sz + j) = some u
theorem Rd.le {α : Type} {h1 h2 : Nat → Option Obj} (H : Hle h1 h2) {f : α → List Value} {sz : Nat} {A : Option Addr} {l : List α} (h : Rd h1 f sz A l) : Rd h2 f sz A l := fun i x hx => by
  obtain ⟨b, o, hA, hc⟩ := h i x hx
  exact ⟨b, o, hA, fun j u hj => H.cell (hc j u hj)⟩

/-- x[y], x of old memory: two operations. -/
theorem g_at {α : Type} {d1 : Nat} {t2 ty1 : TypeId} {p1 : String} {af1 : Array Edge} {e : TypeId} {z : Value} {s b : Nat} {te : Ti} {ik : IntKind} {i : Int} {A : Option Addr} {n c : Nat} {f : α → List Value} {l : List α} {u : α}
    (hx : ev L x = some (.slice A n c)) (hy : ev L y = some (.int ik i)) (ht : tl X.s.tab t = some ⟨.slice e, z, s, b⟩) (hte : tl X.s.tab e = some te) (he : Nat.beq t2 e = true)
    (h0 : 0 ≤ i) (h1 : i < n) (hr : Rd (Oldh X) f te.sz A l) (hl : l[i.toNat]? = some u) (hs : (f u).length = te.sz) (hv : asV te.k (f u) = some v) (hN1 : Nat.blt d1 X.N = true) (hN : Nat.blt d X.N = true)
    (k : ∀ a, G X ops Q rest ((d, v) :: (d1, .pointer (some a)) :: L) R) :
    G X ops Q (⟨some d1, .indexAddr t x y, ty1, p1, af1, none⟩ :: ⟨some d, .load t2 (.tmp d1), ty, p, af, none⟩ :: rest) L R := by
  obtain rfl := Nat.eq_of_beq_eq_true he
  obtain ⟨bx, o, rfl, hc⟩ := hr _ _ hl
  refine g_ix hx hy ht hte h0 h1 hN1 ?_
  exact g_ldO (lk_hd d1 _ L) hte hs hv hc hN (k _)

/-- x[y], x number j of what one owns (or lying in it). -/
theorem g_atW (j : Nat) {d1 : Nat} {t2 ty1 : TypeId} {p1 : String} {af1 : Array Edge} {e e' : TypeId} {z : Value} {s b : Nat} {te : Ti} {ik : IntKind} {i : Int} {g o n c : Nat} {cs l : List Value} {fz : Nat × Nat} {A : HL}
    (hR : R[j]? = some ((g, .cells ⟨l⟩ e' fz) :: A)) (hx : ev L x = some (.slice (some ⟨g, o, none⟩) n c)) (hy : ev L y = some (.int ik i)) (ht : tl X.s.tab t = some ⟨.slice e, z, s, b⟩) (hte : tl X.s.tab e = some te) (he : Nat.beq t2 e = true)
    (h0 : 0 ≤ i) (h1 : i < n) (hs : cs.length = te.sz) (hc : ∀ k u, cs[k]? = some u → l[o + i.toNat * te.sz + k]? = some u) (hv : asV te.k cs = some v) (hN1 : Nat.blt d1 X.N = true) (hN : Nat.blt d X.N = true)
    (k : G X ops Q rest ((d, v) :: (d1, .pointer (some ⟨g, o + i.toNat * te.sz, none⟩)) :: L) R) :
    G X ops Q (⟨some d1, .indexAddr t x y, ty1, p1, af1, none⟩ :: ⟨some d, .load t2 (.tmp d1), ty, p, af, none⟩ :: rest) L R := by
  obtain rfl := Nat.eq_of_beq_eq_true he
  refine g_ix hx hy ht hte h0 h1 hN1 ?_
  refine g_ldG (lk_hd d1 _ L) hte hs hv (fun w hE q u hq => ?_) hN k
  have hb := hp_cellA hE hR
  simp only [World.cell?, hb]
  simpa using hc q u hq

/-- A store at a place that is known to lie within. -/
theorem g_stW (i : Nat) {ti : Ti} {b o : Nat} {l : List Value} {e : TypeId} (hR : R[i]? = some [(b, .cells ⟨l⟩ e (0, 0))]) (hx : ev L x = some (.pointer (some ⟨b, o, none⟩))) (hy : ev L y = some v) (ht : tl X.s.tab t = some ti)
    (hl : v.cells.size = ti.sz) (hlen : o + ti.sz ≤ l.length) (hv : (v.cells.toList.all (·.oneCell')) = true)
    (k : G X ops Q rest L (R.set i [(b, .cells ⟨putC l o v.cells.toList⟩ e (0, 0))])) :
    G X ops Q (⟨none, .store t x y, ty, p, af, none⟩ :: rest) L R :=
  g_st i hR hx hy ht hl (Nat.ble_eq_true_of_le hlen) hv k

/-! ### Slices of one's own as lists -/
theorem flat_get {α : Type} {f : α → List Value} {sz : Nat} (hf : ∀ x, (f x).length = sz) : ∀ (l : List α) (i : Nat) (x : α), l[i]? = some x → ∀ j u, (f x)[j]? = some u → (l.flatMap f)[i * sz + j]? = some u
  | [], i, x, h, _, _, _ => by simp at h
  | a :: l, 0, x, h, j, u, hu => by
    simp at h; subst h
    simp only [List.flatMap_cons, Nat.zero_mul, Nat.zero_add]
    rw [List.getElem?_append_left (List.getElem?_eq_some_iff.1 hu).1]; exact hu
  | a :: l, i + 1, x, h, j, u, hu => by
    simp only [List.getElem?_cons_succ] at h
    simp only [List.flatMap_cons]
    rw [List.getElem?_append_right (by rw [hf a, Nat.add_mul]; omega), hf a, show (i + 1) * sz + j - sz = i * sz + j from by rw [Nat.add_mul]; omega]
    exact flat_get hf l i x h j u hu

def OwnL {α : Type} (e : TypeId) (sz : Nat) (f : α → List Value) (v : Value) (l : List α) (A : HL) : Prop := Own e sz v l.length (l.flatMap f) A
theorem OwnL.nil {α : Type} (e : TypeId) (sz : Nat) (f : α → List Value) : OwnL e sz f (.slice none 0 0) [] [] := Own.nil e sz

theorem OwnL.cellAt' {α : Type} {e : TypeId} {sz : Nat} {f : α → List Value} (hf : ∀ x, (f x).length = sz) {v : Value} {l : List α} {A : HL} (h : OwnL e sz f v l A) {i : Nat} {x : α} (hx : l[i]? = some x) :
    ∃ g cap rest, v = .slice (some ⟨g, 0, none⟩) l.length cap ∧ A = [(g, .cells ⟨l.flatMap f ++ rest⟩ e (0, 0))] ∧ ∀ j u, (f x)[j]? = some u → (l.flatMap f ++ rest)[i * sz + j]? = some u := by
  have hlt := (List.getElem?_eq_some_iff.1 hx).1
  obtain ⟨g, cap, rest, hv, hA, _⟩ := Own.pos h (by omega)
  refine ⟨g, cap, rest, hv, hA, fun j u hu => ?_⟩
  have := flat_get hf l i x hx j u hu
  rw [List.getElem?_append_left (List.getElem?_eq_some_iff.1 this).1]; exact this

theorem g_lenL {α : Type} {A : HL} {f : α → List Value} {l : List α} {e e' : TypeId} {z : Value} {s b sz : Nat} (hx : ev L x = some v) (ho : OwnL e' sz f v l A) (ht : tl X.s.tab t = some ⟨.slice e, z, s, b⟩) (hN : Nat.blt d X.N = true)
    (k : G X ops Q rest ((d, .int .i64 l.length) :: L) R) : G X ops Q (⟨some d, .call ⟨.builtin .len, #[x], #[t]⟩, ty, p, af, none⟩ :: rest) L R := by
  obtain ⟨ad, cap, rfl, _⟩ := Own.shape ho
  exact g_lenS hx ht hN k

/-- x[y], x number j of what one owns. -/
theorem g_atL (j : Nat) {α : Type} {d1 : Nat} {t2 ty1 : TypeId} {p1 : String} {af1 : Array Edge} {e e' : TypeId} {z u : Value} {s b : Nat} {te : Ti} {ik : IntKind} {i : Int} {A : HL} {f : α → List Value} {l : List α} {q : α}
    (hR : R[j]? = some A) (hx : ev L x = some v) (ho : OwnL e' te.sz f v l A) (hf : ∀ x, (f x).length = te.sz) (hy : ev L y = some (.int ik i)) (ht : tl X.s.tab t = some ⟨.slice e, z, s, b⟩) (hte : tl X.s.tab e = some te) (he : Nat.beq t2 e = true)
    (h0 : 0 ≤ i) (hl : l[i.toNat]? = some q) (hv : asV te.k (f q) = some u) (hN1 : Nat.blt d1 X.N = true) (hN : Nat.blt d X.N = true)
    (k : ∀ a, G X ops Q rest ((d, u) :: (d1, .pointer (some a)) :: L) R) :
    G X ops Q (⟨some d1, .indexAddr t x y, ty1, p1, af1, none⟩ :: ⟨some d, .load t2 (.tmp d1), ty, p, af, none⟩ :: rest) L R := by
  obtain ⟨g, cap, rst, rfl, rfl, hc⟩ := OwnL.cellAt' hf ho hl
  have hlt := (List.getElem?_eq_some_iff.1 hl).1
  refine g_atW j hR hx hy ht hte he h0 (by omega) (hf q) (fun k u hu => ?_) hv hN1 hN (k _)
  rw [Nat.zero_add]; exact hc k u hu

/-- append(s, x), as lists. -/
theorem g_app1L (i : Nat) {α : Type} {d1 : Nat} {ty1 : TypeId} {p1 : String} {af1 : Array Edge} {A : HL} {e : TypeId} {z : Value} {s b : Nat} {te : Ti} {u : Value} {f : α → List Value} {l : List α} {q : α}
    (hR : R[i]? = some A) (hx : ev L x = some v) (hd : (match x with | .tmp t => Nat.beq d1 t | _ => false) = false) (hy : ev L y = some u) (ht : tl X.s.tab t = some ⟨.slice e, z, s, b⟩) (hte : tl X.s.tab e = some te) (hsz : Nat.blt 0 te.sz = true) (hz : te.z.cells.size = te.sz)
    (hfl : u.cells = ⟨f q⟩) (hsmall : Nat.ble (1 * te.sz) (2 ^ 24) = true)
    (hl : (f q).length = te.sz) (h1 : ((f q).all (·.oneCell')) = true)
    (hown : OwnL e te.sz f v l A) (hmax : l.length + 1 ≤ maxLen) (hbytes : (l.length + 1) * te.by' ≤ 140737488355328) (hN1 : Nat.blt d1 X.N = true) (hN : Nat.blt d X.N = true)
    (k : ∀ v' A' g, OwnL e te.sz f v' (l ++ [q]) A' → G X ops Q rest ((d, v') :: (d1, .slice (some ⟨g, 0, none⟩) 1 1) :: L) (R.set i A')) :
    G X ops Q (⟨some d1, .buildSlice t 1 #[(0, y)], ty1, p1, af1, none⟩ :: ⟨some d, .call ⟨.builtin .append, #[x, .tmp d1], #[t, t]⟩, ty, p, af, none⟩ :: rest) L R :=
  g_app1 i hR hx hd hy ht hte hsz hz hfl hsmall hl (List.all_eq_true.1 h1) hown hmax hbytes hN1 hN (fun v' A' g ho => k v' A' g (by unfold OwnL; simpa using ho))

/-- append(s, more...), more read of memory. -/
theorem g_appL (i : Nat) {α : Type} {A : HL} {e : TypeId} {z : Value} {s b : Nat} {te : Ti} {f : α → List Value} {l m : List α} {yA : Option Addr} {c : Nat}
    (hR : R[i]? = some A) (hx : ev L x = some v) (hy : ev L y = some (.slice yA m.length c)) (ht : tl X.s.tab t = some ⟨.slice e, z, s, b⟩) (hte : tl X.s.tab e = some te) (hsz : Nat.blt 0 te.sz = true) (hz : te.z.cells.size = te.sz)
    (hown : OwnL e te.sz f v l A) (hf : ∀ x, (f x).length = te.sz) (hn : ∀ w, Hp X w R → Rd (hw w) f te.sz yA m) (h1 : ∀ q, ((f q).all (·.oneCell')) = true)
    (hmax : l.length + m.length ≤ maxLen) (hbytes : (l.length + m.length) * te.by' ≤ 140737488355328) (hN : Nat.blt d X.N = true)
    (k : ∀ v' A', OwnL e te.sz f v' (l ++ m) A' → G X ops Q rest ((d, v') :: L) (R.set i A')) :
    G X ops Q (⟨some d, .call ⟨.builtin .append, #[x, y], #[t, t]⟩, ty, p, af, none⟩ :: rest) L R := by
  have hpos : 0 < te.sz := Nat.le_of_ble_eq_true hsz
  have hlen : ∀ m : List α, (m.flatMap f).length = m.length * te.sz := fun m => by
    induction m with
    | nil => simp
    | cons a m ih => simp only [List.flatMap_cons, List.length_append, ih, hf a, List.length_cons, Nat.add_mul]; omega
  refine g_app i hR hx hy ht hte hsz hz hown (news := m.flatMap f) (hlen m) (fun w hE j u hj => ?_) (fun u hu => ?_) hmax hbytes hN (fun v' A' ho => k v' A' (by unfold OwnL; simpa using ho))
  · have hjl := (List.getElem?_eq_some_iff.1 hj).1
    rw [hlen] at hjl
    have hdiv : j / te.sz < m.length := Nat.div_lt_of_lt_mul (by rw [Nat.mul_comm]; exact hjl)
    obtain ⟨bb, o, hA, hc⟩ := hn w hE (j / te.sz) _ (List.getElem?_eq_getElem hdiv)
    refine ⟨_, hA, ?_⟩
    rw [addr_add, ← cellAt_hw]
    have hmod : j % te.sz < (f m[j / te.sz]).length := by rw [hf]; exact Nat.mod_lt _ hpos
    have hj2 := flat_get hf m _ _ (List.getElem?_eq_getElem hdiv) (j % te.sz) _ (List.getElem?_eq_getElem hmod)
    have e1 : j / te.sz * te.sz + j % te.sz = j := by rw [Nat.mul_comm]; exact Nat.div_add_mod j te.sz
    rw [e1, hj] at hj2
    have h3 := hc (j % te.sz) u (by rw [List.getElem?_eq_getElem hmod]; exact hj2.symm)
    rw [show o + j / te.sz * te.sz + j % te.sz = o + j from by omega] at h3
    exact h3
  · obtain ⟨q, hq, hu⟩ := List.mem_flatMap.1 hu
    exact List.all_eq_true.1 (h1 q) u hu

theorem putC_get : ∀ (vs l : List Value) (o k : Nat), o + vs.length ≤ l.length → (putC l o vs)[k]? = if o ≤ k ∧ k < o + vs.length then vs[k - o]? else l[k]?
  | [], l, o, k, h => by simp [putC]; intro h1 h2; omega
  | v :: vs, l, o, k, h => by
    simp only [List.length_cons] at h
    simp only [putC]
    rw [putC_get vs (l.set o v) (o + 1) k (by simp; omega)]
    by_cases h1 : o + 1 ≤ k ∧ k < o + 1 + vs.length
    · rw [if_pos h1, if_pos (by simp only [List.length_cons]; omega)]
      rw [show k - o = (k - (o + 1)) + 1 from by omega]; simp
    · rw [if_neg h1]
      by_cases h2 : k = o
      · subst h2
        rw [if_pos (by simp only [List.length_cons]; omega)]
        simp only [Nat.sub_self, List.getElem?_cons_zero]
        rw [List.getElem?_set_self (by omega)]
      · rw [if_neg (by simp only [List.length_cons]; omega), List.getElem?_set_ne (Ne.symm h2)]
theorem putC_len : ∀ (vs l : List Value) (o : Nat), (putC l o vs).length = l.length
  | [], l, o => rfl
  | v :: vs, l, o => by simp only [putC]; rw [putC_len]; simp

theorem flat_len {α : Type} {f : α → List Value} {sz : Nat} (hf : ∀ x, (f x).length = sz) (l : List α) : (l.flatMap f).length = l.length * sz := by
  induction l with
  | nil => simp
  | cons a l ih => simp only [List.flatMap_cons, List.length_append, ih, hf a, List.length_cons, Nat.add_mul]; omega

theorem putC_flat {α : Type} {f : α → List Value} {sz : Nat} (hf : ∀ x, (f x).length = sz) : ∀ (l : List α) (i : Nat) (q : α) (rest : List Value), i < l.length → putC (l.flatMap f ++ rest) (i * sz) (f q) = (l.set i q).flatMap f ++ rest := by
  intro l i q rest hi
  apply List.ext_getElem?
  intro k
  have hl1 := flat_len hf l
  have hl2 := flat_len hf (l.set i q)
  have hb : i * sz + sz ≤ l.length * sz := by
    have : (i + 1) * sz ≤ l.length * sz := Nat.mul_le_mul_right _ hi
    rw [Nat.add_mul] at this; omega
  rw [putC_get _ _ _ _ (by rw [List.length_append, hl1, hf q]; omega), hf q]
  simp only [List.length_set] at hl2
  by_cases h1 : i * sz ≤ k ∧ k < i * sz + sz
  · rw [if_pos h1]
    have hk : k - i * sz < (f q).length := by rw [hf]; omega
    have h3 := flat_get hf (l.set i q) i q (by rw [List.getElem?_set_self hi]) (k - i * sz) _ (List.getElem?_eq_getElem hk)
    rw [show i * sz + (k - i * sz) = k from by omega] at h3
    rw [List.getElem?_append_left (by rw [hl2]; omega), h3, List.getElem?_eq_getElem hk]
  · rw [if_neg h1]
    by_cases h2 : k < l.length * sz
    · have hsz : 0 < sz := by
        rcases Nat.eq_zero_or_pos sz with h | h
        · subst h; simp at h2
        · exact h
      have hd : k / sz < l.length := Nat.div_lt_of_lt_mul (by rw [Nat.mul_comm]; exact h2)
      have hne : k / sz ≠ i := by
        rintro rfl
        apply h1
        have h5 := Nat.div_add_mod k sz
        have h6 := Nat.mod_lt k hsz
        rw [Nat.mul_comm] at h5
        omega
      have hm : k % sz < (f l[k / sz]).length := by rw [hf]; exact Nat.mod_lt _ hsz
      have e1 : k / sz * sz + k % sz = k := by rw [Nat.mul_comm]; exact Nat.div_add_mod k sz
      have h3 := flat_get hf l _ _ (List.getElem?_eq_getElem hd) (k % sz) _ (List.getElem?_eq_getElem hm)
      have h4 := flat_get hf (l.set i q) (k / sz) l[k / sz] (by rw [List.getElem?_set_ne (Ne.symm hne), List.getElem?_eq_getElem hd]) (k % sz) _ (List.getElem?_eq_getElem hm)
      rw [e1] at h3 h4
      rw [List.getElem?_append_left (by rw [hl1]; omega), List.getElem?_append_left (by rw [hl2]; omega), h3, h4]
    · rw [List.getElem?_append_right (by rw [hl1]; omega), List.getElem?_append_right (by rw [hl2]; omega), hl1, hl2]

/-- x[y] = q, x number j of what one owns. -/
theorem g_setL (j : Nat) {α : Type} {d1 : Nat} {t2 ty1 : TypeId} {p1 : String} {af1 : Array Edge} {e : TypeId} {z u : Value} {s b : Nat} {te : Ti} {ik : IntKind} {i : Int} {A : HL} {f : α → List Value} {l : List α} {q : α} {r : Operand} {tyS : TypeId} {pS : String} {afS : Array Edge}
    (hR : R[j]? = some A) (hx : ev L x = some v) (ho : OwnL e te.sz f v l A) (hf : ∀ x, (f x).length = te.sz) (hy : ev L y = some (.int ik i)) (ht : tl X.s.tab t = some ⟨.slice e, z, s, b⟩) (hte : tl X.s.tab e = some te) (he : Nat.beq t2 e = true)
    (h0 : 0 ≤ i) (hl : i < l.length) (hr : ev ((d1, .pointer (some ⟨0, 0, none⟩)) :: L) r = some u) (hrd : (match r with | .tmp t => Nat.beq d1 t | _ => false) = false) (hu : u.cells = ⟨f q⟩) (h1 : ((f q).all (·.oneCell')) = true) (hN1 : Nat.blt d1 X.N = true)
    (k : ∀ a A', OwnL e te.sz f v (l.set i.toNat q) A' → G X ops Q rest ((d1, .pointer (some a)) :: L) (R.set j A')) :
    G X ops Q (⟨some d1, .indexAddr t x y, ty1, p1, af1, none⟩ :: ⟨none, .store t2 (.tmp d1) r, tyS, pS, afS, none⟩ :: rest) L R := by
  obtain rfl := Nat.eq_of_beq_eq_true he
  obtain ⟨g, cap, rst, rfl, rfl, hc1, hc2, hc3⟩ := Own.pos ho (by omega)
  refine g_ix hx hy ht hte h0 hl hN1 ?_
  have hr' : ev ((d1, .pointer (some ⟨g, 0 + i.toNat * te.sz, none⟩)) :: L) r = some u := by
    cases r with
    | tmp t' =>
      simp only [ev, lk] at hr ⊢
      rw [show Nat.beq d1 t' = false from hrd] at hr ⊢
      exact hr
    | const _ => exact hr
    | global _ => exact hr
    | func _ => exact hr
  have hin : i.toNat < l.length := by omega
  have hb : i.toNat * te.sz + te.sz ≤ l.length * te.sz := by
    have : (i.toNat + 1) * te.sz ≤ l.length * te.sz := Nat.mul_le_mul_right _ hin
    rw [Nat.add_mul] at this; omega
  refine g_stW j hR (lk_hd d1 _ L) hr' hte (by rw [hu]; exact hf q) ?_ (by rw [hu]; exact h1) ?_
  · rw [List.length_append, flat_len hf l]; omega
  · have e1 : putC (l.flatMap f ++ rst) (0 + i.toNat * te.sz) u.cells.toList = (l.set i.toNat q).flatMap f ++ rst := by
      rw [hu, Nat.zero_add]; exact putC_flat hf l i.toNat q rst hin
    rw [e1]
    refine k _ _ ⟨by rw [flat_len hf], .inr ⟨g, cap, rst, by rw [List.length_set], rfl, by rw [List.length_set]; exact hc1, hc2, ?_⟩⟩
    rw [List.length_append, flat_len hf, List.length_set, ← flat_len hf l, ← List.length_append]; exact hc3
end
end Go.Wk

/- Rows of a library's contracts (Holds, putRow, grow) as memory of one's own. -/
namespace Go.Wk
open Go.Sort Go.RowKit
set_option linter.unusedVariables false
set_option linter.unusedSimpArgs false

theorem Eff.row {w : World} {g q : Nat} {c : Array Value} {e : TypeId} {fz : Nat × Nat} (h : w.heap[g]? = some (.cells c e fz)) (f : Array Value → Array Value) (os : Array Obj) :
    Eff w [(g, .cells c e fz)] (Sort.grow (Sort.mapBlock (Sort.ahead w q) g f) os) [(g, .cells (f c) e fz)] := by
  have hlt := (Array.getElem?_eq_some_iff.1 h).1
  have hs : (w.heap.modify g (Sort.onCells f)).size = w.heap.size := by simp
  refine ⟨fun b o hb => ?_, by simp [ids], fun b hb => .inl hb, fun b hb hn => ?_, ?_, rfl, rfl, rfl⟩
  · simp only [List.mem_singleton, Prod.mk.injEq] at hb
    obtain ⟨rfl, rfl⟩ := hb
    show (w.heap.modify b (Sort.onCells f) ++ os)[b]? = _
    rw [Array.getElem?_append_left (by rw [hs]; exact hlt), Array.getElem?_modify, if_pos rfl, h]; rfl
  · show (w.heap.modify g (Sort.onCells f) ++ os)[b]? = _
    have hne : g ≠ b := by intro hh; apply hn; simp [ids, hh]
    rw [Array.getElem?_append_left (by rw [hs]; exact hb), Array.getElem?_modify, if_neg hne]
  · show w.heap.size ≤ (w.heap.modify g (Sort.onCells f) ++ os).size
    simp

theorem flat_one {α : Type} (f : α → Value) (l : List α) : l.flatMap (fun x => [f x]) = l.map f := by
  induction l with
  | nil => rfl
  | cons a l ih => simp [ih]

theorem put_row {α : Type} [Inhabited α] (f : α → Value) (d : List α) (l : List α) (rest : List Value) (h : d.length = l.length) :
    Sort.putCells f 0 d.toArray ⟨l.map f ++ rest⟩ = ⟨d.map f ++ rest⟩ := by
  apply Array.ext'
  apply List.ext_getElem?
  intro k
  simp only [Sort.putCells]
  simp only [Array.toList_mapIdx, List.getElem?_mapIdx]
  by_cases hk : k < d.length
  · have h1 : k < (l.map f ++ rest).length := by simp; omega
    rw [List.getElem?_eq_getElem h1]
    simp only [Option.map_some]
    rw [if_pos (by simp; omega), List.getElem?_append_left (by simpa using hk)]
    simp [List.getElem?_eq_getElem hk, getElem!_pos, hk]
  · have e1 : (l.map f ++ rest)[k]? = rest[k - d.length]? := by
      rw [List.getElem?_append_right (by simp; omega)]; simp [h]
    have e2 : (d.map f ++ rest)[k]? = rest[k - d.length]? := by
      rw [List.getElem?_append_right (by simp; omega)]; simp
    rw [e1, e2]
    cases rest[k - d.length]? with
    | none => rfl
    | some x => simp; intro hh; omega

theorem holds_row {α : Type} [Inhabited α] (f : α → Value) (l : List α) (rest : List Value) {w : World} {g : Nat} {e : TypeId} (h : w.heap[g]? = some (.cells ⟨l.map f ++ rest⟩ e (0, 0))) : Sort.Holds f w g 0 l.toArray := by
  intro j hj
  have hj' : j < l.length := by simpa using hj
  refine ⟨?_, ?_⟩
  · simp only [World.cell?, h, Nat.zero_add]
    have : (l.map f ++ rest)[j]? = some (f l[j]) := by
      rw [List.getElem?_append_left (by simpa using hj')]; simp [List.getElem?_eq_getElem hj']
    simp [this, getElem!_pos, hj']
  · simp [World.frozen?, h]

theorem run_clear1 {P : Program} {w : World} {t e e' : TypeId} {z : Value} {s b : Nat} {te : Ti} (ht : tiOf P t = some ⟨.slice e, z, s, b⟩) (hte : tiOf P e = some te) (hz : te.z.cells = #[te.z]) (h1 : te.z.oneCell' = true)
    {g o n c : Nat} {A : Option Addr} {l : List Value} (hb : w.heap[g]? = some (.cells ⟨l⟩ e' (0, 0))) (hA : 0 < n → A = some ⟨g, o, none⟩) (hn : o + n ≤ l.length) (ty : TypeId) :
    ∃ w', (Builtin.clear_ #[t] ty #[.slice A n c]).run P w = .ok (.tuple #[]) w' ∧ Eff w [(g, .cells ⟨l⟩ e' (0, 0))] w' [(g, .cells ⟨putC l o (List.replicate n te.z)⟩ e' (0, 0))] := by
  have hu := run_underlying (P := P) (tk_slice ht)
  rcases Nat.eq_zero_or_pos n with rfl | hpos
  · refine ⟨w, ?_, ?_⟩
    · cases A with
      | none => simp [Builtin.clear_, hu]
      | some a => simp [Builtin.clear_, hu]
    · simp only [List.replicate_zero, putC]
      exact Eff.put hb hb (fun _ _ => rfl) rfl rfl rfl rfl
  · have hA' := hA hpos
    subst hA'
    obtain ⟨m, rfl⟩ : ∃ m, n = m + 1 := ⟨n - 1, by omega⟩
    have hzc : (Builtin.zeroCells te.z.cells (m + 1)).toList = List.replicate (m + 1) te.z := by
      rw [hz]; simp [Builtin.zeroCells]
      apply List.ext_getElem
      · simp
      · intro i h1 h2; simp [Nat.mod_one]
    obtain ⟨w', h, E⟩ := run_storeCells (P := P) (List.replicate (m + 1) te.z) l o 0 w hb (by simp; omega) (fun v hv => by rw [List.eq_of_mem_replicate hv]; exact h1)
    refine ⟨w', ?_, by simpa using E⟩
    simp [Builtin.clear_, hu, run_zeroValue hte, hzc, h]

section
variable {X : Cx} {ops : Array Oper} {Q : Post} {rest : List Oper} {L : LT} {R : RL} {d : Nat} {x y : Operand} {v : Value} {t ty : TypeId} {p : String} {af : Array Edge}
/-- clear(s[o:]) of one's own, elements of one cell. -/
theorem g_clear1 (i : Nat) {e e' : TypeId} {z : Value} {s b : Nat} {te : Ti} {g o n c : Nat} {A : Option Addr} {l : List Value} (hR : R[i]? = some [(g, .cells ⟨l⟩ e' (0, 0))]) (hx : ev L x = some (.slice A n c))
    (ht : tl X.s.tab t = some ⟨.slice e, z, s, b⟩) (hte : tl X.s.tab e = some te) (hz : te.z.cells = #[te.z]) (h1 : te.z.oneCell' = true) (hA : 0 < n → A = some ⟨g, o, none⟩) (hn : o + n ≤ l.length)
    (k : G X ops Q rest L (R.set i [(g, .cells ⟨putC l o (List.replicate n te.z)⟩ e' (0, 0))])) :
    G X ops Q (⟨none, .call ⟨.builtin .clear, #[x], #[t]⟩, ty, p, af, none⟩ :: rest) L R :=
  g_runU (Y := Unit) (fun _ => R.set i [(g, .cells ⟨putC l o (List.replicate n te.z)⟩ e' (0, 0))]) (fun _ => True) rfl rfl (by intro c h; cases h)
    (fun a w ha hE => by
      have hb := hp_cellA hE hR
      obtain ⟨w', h, E⟩ := run_clear1 (X.s.ok.at ht) (X.s.ok.at hte) hz h1 (c := c) hb hA hn ty
      refine ⟨(), w', .inr ⟨.tuple #[], ?_⟩, hp_front i hR hE E, trivial⟩
      simp only [execOp]
      simp [resolve, invoke, builtin, ha.kn.ev hx, h]) (fun _ _ => k)
end
theorem cell1 {H : Nat → Option Obj} {b o : Nat} {v : Value} (h : cellAt H b o = some v) : ∀ (j : Nat) (u : Value), [v][j]? = some u → cellAt H b (o + j) = some u := by
  intro j u hj
  cases j with
  | zero => simp only [List.getElem?_cons_zero, Option.some.injEq] at hj; subst hj; exact h
  | succ j => simp at hj
theorem inc_eq {k : Nat} (h : k < 4611686018427387904) : some (Value.int .i64 (IntKind.i64.wrap ((k : Int) + 1))) = some (Value.int .i64 ((k + 1 : Nat) : Int)) :=
  congrArg (fun z => some (Value.int .i64 z)) (by rw [IntKind.wrap_i64]; omega)
theorem inc_eqZ {k : Int} (h : -4611686018427387904 ≤ k ∧ k < 4611686018427387904) : some (Value.int .i64 (IntKind.i64.wrap (k + 1))) = some (Value.int .i64 (k + 1)) :=
  congrArg (fun z => some (Value.int .i64 z)) (by rw [IntKind.wrap_i64]; omega)
/-- What memory outside A holds. -/
def exc (w : World) (A : HL) : Nat → Option Obj := fun b => if b ∈ ids A then none else w.heap[b]?
theorem hw_exc {w : World} : exc w [] = hw w := by funext b; simp [exc, hw, ids]
theorem OwnL.rd {α : Type} {e : TypeId} {sz : Nat} {f : α → List Value} {v : Value} {l : List α} {A : HL} (hf : ∀ x, (f x).length = sz) (ho : OwnL e sz f v l A) {H : Nat → Option Obj} (hA : ∀ b o, (b, o) ∈ A → H b = some o) :
    ∃ ad cap, v = .slice ad l.length cap ∧ Rd H f sz ad l := by
  rcases ho.2 with ⟨rfl, h2, h3⟩ | ⟨g, cap, rest, rfl, rfl, h3, h4, h5⟩
  · have := List.eq_nil_of_length_eq_zero h2
    subst this
    exact ⟨none, 0, rfl, fun i x hx => by simp at hx⟩
  · refine ⟨some ⟨g, 0, none⟩, cap, rfl, fun i x hx => ⟨g, 0, rfl, fun j u hj => ?_⟩⟩
    have hg := hA g _ List.mem_cons_self
    simp only [cellAt, hg]
    have h6 := flat_get hf l i x hx j u hj
    have : (l.flatMap f ++ rest)[0 + i * sz + j]? = some u := by
      rw [Nat.zero_add, List.getElem?_append_left (List.getElem?_eq_some_iff.1 h6).1]; exact h6
    simpa using this
theorem enterA {s : Sx} {f : FuncId} {fn : Func} {c : Code} {args : List Value} {w : World} {Rp : Ending → World → Prop} (A0 : RL) {A : HL} {N : Nat} (hA : A0.flatten = A)
    (hf : s.P.funcs[f]? = some fn) (hb : fn.body = some c) (hN : fn.ntmps = N) (hlen : Nat.ble args.length N = true)
    (hE : Eff w A w A)
    (h : GC ⟨s, none, 0, N, [], w, A⟩ c (bodyPost s.P fn Rp) (zipL 0 args) A0) : Calls s.P f args.toArray w Rp := by
  subst hA; exact enter A0 hf hb hN hlen hE h
theorem hp_eff {X : Cx} {w : World} {A : HL} {R : RL} (H : Hp X w (A :: R)) : Eff w A w A :=
  Eff.start w A (fun b o hb => H.holds b o (List.mem_append_left _ hb)) (by
    have := H.nodup
    rw [List.flatten_cons, ids_append] at this
    exact (List.nodup_append.1 this).1)
theorem hp_exc {X : Cx} {w : World} {A : HL} {R : RL} (H : Hp X w (A :: R)) {b : Nat} {o : Obj} (h : (b, o) ∈ R.flatten) : exc w A b = some o := by
  unfold exc
  have hn := H.nodup
  rw [List.flatten_cons, ids_append] at hn
  rw [if_neg (fun hb => (List.nodup_append.1 hn).2.2 b hb b (mem_ids.2 ⟨o, h⟩) rfl)]
  exact H.holds b o (List.mem_append_right _ h)
theorem hp_excO {X : Cx} {w : World} {A : HL} {R : RL} (H : Hp X w (A :: R)) {b : Nat} {o : Obj} (h : Oldh X b = some o) : exc w A b = some o := by
  unfold exc
  rw [if_neg, ← old_hw H h]; rfl
  intro hb
  rcases H.fresh b (by rw [List.flatten_cons, ids_append]; exact List.mem_append_left _ hb) with h1 | h1
  · unfold Oldh at h; rw [if_pos h1] at h; cases h
  · unfold Oldh at h
    split at h
    · cases h
    · exact absurd (Array.getElem?_eq_some_iff.1 h).1 (by omega)
/-- A call that is handed the part of R that is ahead. -/
theorem g_callA {X : Cx} {ops : Array Oper} {Q : Post} {rest : List Oper} {L : LT} {R : RL} {d : Nat} {ty : TypeId} {p : String} {af : Array Edge}
    {g : FuncId} {f : Operand} {f1 cp : Array Value} {xs : Array Operand} {ats : Array TypeId} {vs gs : List Value} {Y : Type} {vf : Y → Value} {post : Y → Prop} {A' : Y → RL} {A : HL} {F : RL}
    (hR : R = A :: F)
    (hf : ev L f = some (.func (.func g) f1 cp)) (hg : Cl X.s.P g) (hxs : evs L xs.toList = some vs) (has : f1.toList ++ vs ++ cp.toList = gs)
    (hc : ∀ w, Hp X w (A :: F) → Sp X.s.P g gs w A vf A' post)
    (hN : Nat.blt d X.N = true) (k : ∀ y, post y → G X ops Q rest ((d, vf y) :: L) (A' y ++ F)) :
    G X ops Q (⟨some d, .call ⟨.value f, xs, ats⟩, ty, p, af, none⟩ :: rest) L R :=
  g_callG hf hg hxs has (fun w hE => (hc w (hR ▸ hE)).mono (fun e w' ⟨y, hp, he, E⟩ => ⟨y, hp, he, by
    unfold Hp at hE
    rw [hR, List.flatten_cons] at hE
    have := Eff.seq hE E
    unfold Hp
    rw [List.flatten_append]; exact this⟩)) hN k
theorem putC_tail (xs ys zs : List Value) (h : ys.length = zs.length) (rest : List Value) : putC (xs ++ (ys ++ rest)) xs.length zs = xs ++ zs ++ rest := by
  rw [putC_append zs xs (ys ++ rest) (by simp; omega), ← h]
  simp
end Go.Wk

/- DERIVED: THE SHELF's CONTRACTS AT THIS DUMP, IN PLAIN WORDS (tools/lay-plain.mjs out of 'TryShelf.lean', which tools/lay-shelf.mjs wrote): THE SAME DECLARATIONS UNDER THE SAME NAMES: 'import', 'namespace', 'open', 'def', 'theorem' AND NOTHING ELSE: no command of the shelf's: FOR A HAND-IN. Each laying: the table of numbers ('.._ren') and one theorem, a field a fact of the dump's own or the kernel's comparison; each contract: ONE APPLICATION. -/
namespace Go.Proofs
open Go.Shelf
def Tryz.lays189_ren : Go.Shelf.Ren := ⟨fun | 189 => 28 | 125 => 51 | 257 => 50 | 128 => 92 | 129 => 93 | 294 => 83 | 295 => 84 | 296 => 85 | 297 => 86 | 298 => 87 | 299 => 88 | 216 => 89 | 300 => 90 | 301 => 91 | 328 => 127 | 329 => 128 | 330 => 129 | 331 => 130 | 332 => 131 | 215 => 132 | 343 => 152 | n => n, fun | 28 => 33 | 3 => 3 | 46 => 105 | 0 => 0 | 51 => 38 | 53 => 148 | 4 => 4 | 183 => 140 | 182 => 139 | 131 => 144 | 5 => 5 | 9 => 9 | 218 => 169 | 222 => 173 | 228 => 189 | 229 => 190 | n => n, fun | n => n⟩
theorem Tryz.lays189 : Go.Proofs.Lays.n189 Tryz.prog Tryz.lays189_ren := {
  mixed := by kernel_rfl
  f125 := Tryz.func51.trans (congrArg some (by kernel_rfl))
  f128 := Tryz.func92.trans (congrArg some (by kernel_rfl))
  f129 := Tryz.func93.trans (congrArg some (by kernel_rfl))
  f189 := Tryz.func28.trans (congrArg some (by kernel_rfl))
  f215 := Tryz.func132.trans (congrArg some (by kernel_rfl))
  f216 := Tryz.func89.trans (congrArg some (by kernel_rfl))
  f257 := Tryz.func50.trans (congrArg some (by kernel_rfl))
  f294 := Tryz.func83.trans (congrArg some (by kernel_rfl))
  f295 := Tryz.func84.trans (congrArg some (by kernel_rfl))
  f296 := Tryz.func85.trans (congrArg some (by kernel_rfl))
  f297 := Tryz.func86.trans (congrArg some (by kernel_rfl))
  f298 := Tryz.func87.trans (congrArg some (by kernel_rfl))
  f299 := Tryz.func88.trans (congrArg some (by kernel_rfl))
  f300 := Tryz.func90.trans (congrArg some (by kernel_rfl))
  f301 := Tryz.func91.trans (congrArg some (by kernel_rfl))
  f328 := Tryz.func127.trans (congrArg some (by kernel_rfl))
  f329 := Tryz.func128.trans (congrArg some (by kernel_rfl))
  f330 := Tryz.func129.trans (congrArg some (by kernel_rfl))
  f331 := Tryz.func130.trans (congrArg some (by kernel_rfl))
  f332 := Tryz.func131.trans (congrArg some (by kernel_rfl))
  f343 := Tryz.func152.trans (congrArg some (by kernel_rfl))
  t0 := Tryz.underlying0
  a0 := Tryz.isAgg0
  z0 := Tryz.sizeOf0
  v0 := Tryz.zeroValue0
  t3 := Tryz.underlying3
  a3 := Tryz.isAgg3
  z3 := Tryz.sizeOf3
  v3 := Tryz.zeroValue3
  t4 := Tryz.underlying4
  a4 := Tryz.isAgg4
  z4 := Tryz.sizeOf4
  v4 := Tryz.zeroValue4
  t5 := Tryz.underlying5
  a5 := Tryz.isAgg5
  z5 := Tryz.sizeOf5
  v5 := Tryz.zeroValue5
  t9 := Tryz.underlying9
  a9 := Tryz.isAgg9
  z9 := Tryz.sizeOf9
  v9 := Tryz.zeroValue9
  t28 := Tryz.underlying33
  a28 := Tryz.isAgg33
  z28 := Tryz.sizeOf33
  v28 := Tryz.zeroValue33
  t46 := Tryz.underlying105
  a46 := Tryz.isAgg105
  z46 := Tryz.sizeOf105
  v46 := Tryz.zeroValue105
  t51 := Tryz.underlying38
  a51 := Tryz.isAgg38
  z51 := Tryz.sizeOf38
  v51 := Tryz.zeroValue38
  t53 := Tryz.underlying148
  a53 := Tryz.isAgg148
  z53 := Tryz.sizeOf148
  v53 := Tryz.zeroValue148
  t131 := Tryz.underlying144
  a131 := Tryz.isAgg144
  z131 := Tryz.sizeOf144
  v131 := Tryz.zeroValue144
  t182 := Tryz.underlying139
  a182 := Tryz.isAgg139
  z182 := Tryz.sizeOf139
  v182 := Tryz.zeroValue139
  t183 := Tryz.underlying140
  a183 := Tryz.isAgg140
  z183 := Tryz.sizeOf140
  v183 := Tryz.zeroValue140
  t218 := Tryz.underlying169
  a218 := Tryz.isAgg169
  z218 := Tryz.sizeOf169
  v218 := Tryz.zeroValue169
  t222 := Tryz.underlying173
  a222 := Tryz.isAgg173
  z222 := Tryz.sizeOf173
  v222 := Tryz.zeroValue173
  t228 := Tryz.underlying189
  a228 := Tryz.isAgg189
  z228 := Tryz.sizeOf189
  v228 := Tryz.zeroValue189
  t229 := Tryz.underlying190
  a229 := Tryz.isAgg190
  z229 := Tryz.sizeOf190
  v229 := Tryz.zeroValue190 }
open Go.Sort Go.RowKit in
theorem Tryz.slices_Sort_int (blk off cap : Nat) (zs : List Int) (w : World) (hH : Holds (Value.int .i64) w blk off zs.toArray) (hblk : blk < w.heap.size) (hsz : zs.length < 4611686018427387904) :
    Calls Tryz.prog 28 #[.slice (some ⟨blk, off, none⟩) zs.length cap] w fun e w' =>
      e = .returned (.tuple #[]) ∧ ∃ n os, w' = grow (putRow (Value.int .i64) (Sort.ahead w n) blk off (zs.mergeSort fun x y => decide (x ≤ y)).toArray) os := Any.slices_Sort_int Tryz.lays189 blk off cap zs w hH hblk hsz
def Tryz.laysNm220_ren : Go.Shelf.Ren := ⟨fun | 20 => 29 | n => n, fun | 22 => 33 | 3 => 3 | 4 => 4 | 0 => 0 | n => n, fun | n => n⟩
theorem Tryz.laysNm220 : Go.Proofs.Lays2.n20 Tryz.prog Tryz.laysNm220_ren := {
  mixed := by kernel_rfl
  f20 := Tryz.func29.trans (congrArg some (by kernel_rfl))
  t0 := Tryz.underlying0
  a0 := Tryz.isAgg0
  z0 := Tryz.sizeOf0
  v0 := Tryz.zeroValue0
  t3 := Tryz.underlying3
  a3 := Tryz.isAgg3
  z3 := Tryz.sizeOf3
  v3 := Tryz.zeroValue3
  t4 := Tryz.underlying4
  a4 := Tryz.isAgg4
  z4 := Tryz.sizeOf4
  v4 := Tryz.zeroValue4
  t22 := Tryz.underlying33
  a22 := Tryz.isAgg33
  z22 := Tryz.sizeOf33
  v22 := Tryz.zeroValue33
  i3 := by kernel_rfl }
open Go.RowKit Go.Lib Go.Sort in
/-- slices.Compact at []int, over an array: the library's two loops are walked. (LAID: no walk: one application.) -/
theorem Tryz.slices_Compact_int_arr (blk off cap : Nat) (d : Array Int) (w : World) (hH : Holds encI w blk off d) (hsz : d.size ≤ 9223372036854775807) (hcap : d.size ≤ cap) :
    Calls Tryz.prog 29 #[.slice (some ⟨blk, off, none⟩) d.size cap] w fun e w' => e = .returned (.slice (some ⟨blk, off, none⟩) (compactUpTo d d.size).length cap) ∧ ∃ q, w' = putRow encI (Sort.ahead w q) blk off (compactUpTo d d.size ++ List.replicate (d.size - (compactUpTo d d.size).length) 0).toArray := Any.slices_Compact_int_arr Tryz.laysNm220 blk off cap d w hH hsz hcap
open Go.RowKit Go.Lib Go.Sort in
/-- slices.Compact at []int: "Compact replaces consecutive runs of equal elements with a single copy. This is like the uniq command found on Unix. Compact modifies the contents of the slice s and returns the modified slice, which may have a smaller length. Compact zeroes the elements between the new length and the original length. The result preserves the nilness of s.": IT RETURNS THE SLICE CUT TO 'Lib.compact zs'; ITS CELLS HOLD 'Lib.compact zs', THEN ZERO VALUES up to the old length; all else is as it was, but for the count of draws. IN THE WORDS OF slices.Sort's CONTRACT ('Holds', 'putRow'): so the everyday 'slices.Sort(xs); xs = slices.Compact(xs)' goes from the one contract to the other. It asks 'zs.length ≤ cap' (every slice's: the reslicing 's[:k]' looks at it). Length 0, nil: '.._empty'. (LAID: no walk: one application.) -/
theorem Tryz.slices_Compact_int (blk off cap : Nat) (zs : List Int) (w : World) (hH : Holds (Value.int .i64) w blk off zs.toArray) (hsz : zs.length ≤ 9223372036854775807) (hcap : zs.length ≤ cap) :
    Calls Tryz.prog 29 #[.slice (some ⟨blk, off, none⟩) zs.length cap] w fun e w' => e = .returned (.slice (some ⟨blk, off, none⟩) (Lib.compact zs).length cap) ∧ ∃ q, w' = putRow (Value.int .i64) (Sort.ahead w q) blk off (Lib.compact zs ++ List.replicate (zs.length - (Lib.compact zs).length) 0).toArray := Any.slices_Compact_int Tryz.laysNm220 blk off cap zs w hH hsz hcap
open Go.RowKit Go.Lib Go.Sort in
/-- The same at a slice of length 0, a nil one too: it comes back as it is. (LAID: no walk: one application.) -/
theorem Tryz.slices_Compact_int_empty (a : Option Addr) (cap : Nat) (w : World) :
    Calls Tryz.prog 29 #[.slice a 0 cap] w fun e w' => e = .returned (.slice a 0 cap) ∧ w' = w := Any.slices_Compact_int_empty Tryz.laysNm220 a cap w
open Go.RowKit Go.Lib Go.Sort in
/-- slices.Compact at []int, of an argument: the slice cut to 'Lib.compact (elements)'; the n cells hold that, then zeros. (LAID: no walk: one application.) -/
theorem Tryz.slices_Compact_int_cells (b off n c : Nat) (zs : List Int) (w : World) (hz : n ≤ zs.length) (hbig : n ≤ 9223372036854775807) (hcap : n ≤ c) (hc : ∀ j, j < zs.length → w.cell? ⟨b, off + j, none⟩ = some (.int .i64 (zs.getD j 0))) (hf : ∀ j, j < n → w.frozen? ⟨b, off + j, none⟩ = false) :
    Calls Tryz.prog 29 #[.slice (some ⟨b, off, none⟩) n c] w fun e w' => e = .returned (.slice (some ⟨b, off, none⟩) (Lib.compact (zs.take n)).length c) ∧ ∃ q, w' = (w.drewN q).setCells b off ((Lib.compact (zs.take n) ++ List.replicate (n - (Lib.compact (zs.take n)).length) 0).map (Value.int .i64)) := Any.slices_Compact_int_cells Tryz.laysNm220 b off n c zs w hz hbig hcap hc hf
open Go.RowKit Go.Sort in
/-- .. and plain. (LAID: no walk: one application.) -/
theorem Tryz.slices_Sort_int_none (p : Option Addr) (cap : Nat) (w : World) :
    Calls Tryz.prog 28 #[.slice p 0 cap] w fun e w' => e = .returned (.tuple #[]) ∧ w' = w := Any.slices_Sort_int_none Tryz.lays189 p cap w
end Go.Proofs
