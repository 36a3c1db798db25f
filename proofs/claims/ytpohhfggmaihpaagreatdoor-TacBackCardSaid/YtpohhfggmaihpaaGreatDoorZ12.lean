/-
  Rows of bytes that grow by strings; a row whose end may be frozen behind its last cell.
  Strings put together, rows of bytes to strings, pointers without a type.
  Own blocks handed to a call; a row of bytes.
  The shelf's numbers of strings.Join and strconv.Itoa at this translation, as the kit's lay-plain wrote them.
  strings.Builder: copyCheck, WriteString, Len, String; a line of a writer.
  A line of a writer; numbers.
  Numbers' and operands' texts, tac's and the document's.
  The document's Dec, dec, d, arg1.
-/
import Derived.Test.YtpohhfggmaihpaaGreatDoorZ11
import Derived.Lib.AppendStr
import Derived.Lib.UnsafeStr
import Derived.Lib.Builder
import Derived.Laws.IdiomStrings
import Derived.Laws.Externs
import Derived.Laws.Concat
import Derived.Laws.Entries
import Derived.Shelf.Strings.OnBuilder
import Derived.Shelf.Strconv.Itoa3
import Derived.Ground.Names2Prog
import Derived.Test.YtpohhfggmaihpaaGreatDoorProg
import Derived.Test.YtpohhfggmaihpaaGreatDoorZ10
import Derived.Test.YtpohhfggmaihpaaGreatDoorZ8
import Derived.Lib.AppendIntMem

/- Rows of bytes that grow by strings; a row whose end may be frozen behind its last cell. -/
namespace Go.Wk
set_option linter.unusedVariables false
set_option linter.unusedSimpArgs false

def okZ (fz : Nat × Nat) (n : Nat) : Prop := fz = (0, 0) ∨ n ≤ fz.1
theorem run_storeZ {P : Program} {w : World} {b o : Nat} {c : Array Value} {e : TypeId} {fz : Nat × Nat} (v : Value) (hb : w.heap[b]? = some (.cells c e fz)) (hz : okZ fz c.size) (ho : o < c.size) (hv : v.oneCell' = true) :
    (store ⟨b, o, none⟩ v).run P w = .ok () (w.setCell ⟨b, o, none⟩ v) := by
  have hc : w.cell? ⟨b, o, none⟩ = some c[o] := by simp [World.cell?, hb, ho]
  have hf : w.frozen? ⟨b, o, none⟩ = false := by
    obtain ⟨lo, hi⟩ := fz
    simp only [World.frozen?, hb]
    rcases hz with h | h
    · cases h; simp
    · simp only at h
      simp; omega
  cases v <;> simp [Value.oneCell'] at hv <;> simp [store, Sem.run, hc, hf]
theorem run_storeCellsZ {P : Program} {b : Nat} {e : TypeId} {fz : Nat × Nat} : ∀ (vs : List Value) (l : List Value) (o i : Nat) (w : World), w.heap[b]? = some (.cells l.toArray e fz) → okZ fz l.length → o + i + vs.length ≤ l.length → (∀ v ∈ vs, v.oneCell' = true) →
    ∃ w', (storeCells ⟨b, o, none⟩ vs i).run P w = .ok () w' ∧ Eff w [(b, .cells l.toArray e fz)] w' [(b, .cells (putC l (o + i) vs).toArray e fz)]
  | [], l, o, i, w, hb, _, _, _ => ⟨w, by simp [storeCells], by simp only [putC]; exact Eff.put hb hb (fun _ _ => rfl) rfl rfl rfl rfl⟩
  | v :: vs, l, o, i, w, hb, hz, hlen, hv => by
    simp only [List.length_cons] at hlen
    have h1 := run_storeZ (P := P) (o := o + i) v hb (by simpa using hz) (by simp; omega) (hv v List.mem_cons_self)
    have E1 := Eff.setCell (off := o + i) hb v
    have e1 : l.toArray.setIfInBounds (o + i) v = (l.set (o + i) v).toArray := by simp
    rw [e1] at E1
    obtain ⟨w', h2, E2⟩ := run_storeCellsZ vs (l.set (o + i) v) o (i + 1) (w.setCell ⟨b, o + i, none⟩ v) (E1.holds b _ List.mem_cons_self) (by simpa using hz) (by simp; omega) (fun u hu => hv u (List.mem_cons_of_mem _ hu))
    refine ⟨w', ?_, ?_⟩
    · simp only [storeCells, addr_add, Sem.run_bind, h1, Result.andThen_ok]
      exact h2
    · have E3 := Eff.seq (F := []) (by simpa using E1) E2
      simp only [List.append_nil] at E3
      rw [show o + (i + 1) = o + i + 1 from by omega] at E3
      simpa [putC] using E3

/-- A row that one owns, frozen nowhere ahead of its end. -/
def OwnZ (e : TypeId) (sz : Nat) (v : Value) (n : Nat) (xs : List Value) (A : HL) : Prop :=
  xs.length = n * sz ∧ ((v = .slice none 0 0 ∧ n = 0 ∧ A = []) ∨ ∃ g cap rest fz, v = .slice (some ⟨g, 0, none⟩) n cap ∧ A = [(g, .cells ⟨xs ++ rest⟩ e fz)] ∧ n ≤ cap ∧ cap ≤ maxLen ∧ (xs ++ rest).length = cap * sz ∧ okZ fz (cap * sz))
theorem Own.z {e : TypeId} {sz : Nat} {v : Value} {n : Nat} {xs : List Value} {A : HL} (h : Own e sz v n xs A) : OwnZ e sz v n xs A := by
  refine ⟨h.1, ?_⟩
  rcases h.2 with h | ⟨g, cap, rest, h1, h2, h3, h4, h5⟩
  · exact .inl h
  · exact .inr ⟨g, cap, rest, (0, 0), h1, h2, h3, h4, h5, .inl rfl⟩
theorem OwnZ.shape {e : TypeId} {sz : Nat} {v : Value} {n : Nat} {xs : List Value} {A : HL} (h : OwnZ e sz v n xs A) : ∃ ad cap, v = .slice ad n cap := by
  rcases h.2 with ⟨rfl, rfl, rfl⟩ | ⟨g, cap, rest, fz, rfl, _⟩
  · exact ⟨none, 0, rfl⟩
  · exact ⟨_, cap, rfl⟩
theorem OwnZ.ids {e : TypeId} {sz : Nat} {v : Value} {n : Nat} {xs : List Value} {A : HL} (h : OwnZ e sz v n xs A) : (ids A).Nodup := by
  rcases h.2 with ⟨rfl, rfl, rfl⟩ | ⟨g, cap, rest, fz, rfl, rfl, _⟩ <;> simp [Wk.ids]
section
variable {P : Program} {t e : TypeId} {z : Value} {s0 b0 : Nat} {te : Ti}
theorem grownZ (hz : te.z.cells.size = te.sz) {n m : Nat} {xs news : List Value} {w : World} (hlen : (xs ++ news).length = (n + m) * te.sz) (hmax : n + m ≤ maxLen) (old : Nat) (ho : old < n + m) (A' : HL) (hA' : ∀ g o, (g, o) ∈ A' → w.heap[g]? = some o) (hnd : (ids A').Nodup) :
      OwnZ e te.sz (.slice (some ⟨w.heap.size, 0, none⟩) (n + m) (grownCap w (n + m) old e)) (n + m) (xs ++ news) [(w.heap.size, .cells ⟨(xs ++ news) ++ (Builtin.zeroCells te.z.cells (grownCap w (n + m) old e - (n + m))).toList⟩ e (0, 0))] ∧
      Eff w A' (w.drew.alloc (.cells ⟨(xs ++ news) ++ (Builtin.zeroCells te.z.cells (grownCap w (n + m) old e - (n + m))).toList⟩ e)) [(w.heap.size, .cells ⟨(xs ++ news) ++ (Builtin.zeroCells te.z.cells (grownCap w (n + m) old e - (n + m))).toList⟩ e (0, 0))] := by
  have hge := grownCap_ge w (n + m) old e
  have hcm := grownCap_le_maxLen w (n + m) old e hmax
  refine ⟨⟨hlen, .inr ⟨_, _, _, _, rfl, rfl, hge, hcm, ?_, .inl rfl⟩⟩, ?_⟩
  · rw [List.length_append, hlen, Array.length_toList, size_zeroCells, hz, ← Nat.add_mul]
    congr 1; omega
  · have E := Eff.seq0 (Eff.start w A' hA' hnd) (Eff.drew w)
    simp only [List.nil_append] at E
    have E2 := Eff.seq0 E (Eff.alloc w.drew (.cells ⟨(xs ++ news) ++ (Builtin.zeroCells te.z.cells (grownCap w (n + m) old e - (n + m))).toList⟩ e))
    exact Eff.sel E2 A' (List.Perm.refl _)
theorem run_appendZ (ht : tiOf P t = some ⟨.slice e, z, s0, b0⟩) (hte : tiOf P e = some te) (hsz : 0 < te.sz) (hz : te.z.cells.size = te.sz)
    {v : Value} {n : Nat} {xs : List Value} {A : HL} {w : World} (hown : OwnZ e te.sz v n xs A) (hA : ∀ g o, (g, o) ∈ A → w.heap[g]? = some o)
    {a : Addr} {m c : Nat} {news : List Value} (hl : news.length = m * te.sz) (hm0 : 0 < m) (hnews : ∀ j u, news[j]? = some u → w.cell? (a.add j) = some u) (h1 : ∀ u ∈ news, u.oneCell' = true)
    (hmax : n + m ≤ maxLen) (hbytes : (n + m) * te.by' ≤ 140737488355328) (ty : TypeId) :
    ∃ v' A' w', (Builtin.append_ #[t, t] ty #[v, .slice (some a) m c]).run P w = .ok v' w' ∧ OwnZ e te.sz v' (n + m) (xs ++ news) A' ∧ Eff w A w' A' := by
  obtain ⟨d, i, hd, hi, hk, hzz, hs, hb⟩ := tiOf_spec hte
  have hu := tk_slice ht
  have hlx : news.length = m * i.size := by rw [hs]; exact hl
  have hmx : n + m ≤ 9223372036854775807 := by unfold maxLen at hmax; omega
  have hbi : (n + m) * i.bytes ≤ 140737488355328 := by rw [hb]; exact hbytes
  have hlen : (xs ++ news).length = (n + m) * te.sz := by rw [List.length_append, hown.1, hl, Nat.add_mul]
  rcases hown.2 with ⟨rfl, rfl, rfl⟩ | ⟨g, cap, rest, fz, rfl, rfl, h2, h3, h4, h5⟩
  · have hx : xs = [] := List.eq_nil_of_length_eq_zero (by simpa using hown.1)
    subst hx
    have hr := run_append_nil (P := P) w t ty e i te.z hu hi hzz a m c news hlx hnews (by omega) (by omega) (by simp only [Nat.zero_add] at hbi; omega)
    obtain ⟨g1, g2⟩ := grownZ (e := e) (w := w) hz hlen hmax 0 (by omega) [] (fun _ _ h => by cases h) (by simp [ids])
    simp only [Nat.zero_add, List.nil_append] at g1 g2 ⊢
    refine ⟨_, _, _, hr, g1, ?_⟩
    have e1 : (news.toArray ++ Builtin.zeroCells te.z.cells (grownCap w m 0 e - m)) = ⟨news ++ (Builtin.zeroCells te.z.cells (grownCap w m 0 e - m)).toList⟩ := by apply Array.ext'; simp
    rw [e1]
    exact g2
  · have hg := hA g _ List.mem_cons_self
    by_cases hroom : n + m ≤ cap
    · have hrl : news.length ≤ rest.length := by
        have h5 : xs.length + rest.length = cap * te.sz := by simpa using h4
        rw [hown.1] at h5
        have h6 : (n + m) * te.sz ≤ cap * te.sz := Nat.mul_le_mul_right _ hroom
        rw [Nat.add_mul] at h6
        omega
      obtain ⟨w', hst, E⟩ := run_storeCellsZ (P := P) (e := e) news (xs ++ rest) xs.length 0 w hg (by rw [h4]; exact h5) (by simp; omega) h1
      simp only [Nat.add_zero] at E
      rw [putC_append news xs rest hrl] at E
      refine ⟨.slice (some ⟨g, 0, none⟩) (n + m) cap, _, w', ?_, ⟨hlen, .inr ⟨g, cap, rest.drop news.length, fz, rfl, rfl, hroom, h3, ?_, h5⟩⟩, E⟩
      · have hf := run_firstCells_some (P := P) w i.size m a m c news hlx hnews
        have hxs : xs.length = n * i.size := by rw [hs]; exact hown.1
        rw [hxs] at hst
        simp [Builtin.append_, run_underlying hu, sizeOf, typeInfo, hi, Builtin.lenOf, hroom, hf, addr_add, hst]
      · have h5 : xs.length + rest.length = cap * te.sz := by simpa using h4
        simp only [List.length_append, List.length_drop]
        omega
    · have hxl : xs.length = n * i.size := by rw [hs]; exact hown.1
      have hcells : ∀ j u, xs[j]? = some u → w.cell? ((⟨g, 0, none⟩ : Addr).add j) = some u := fun j u hj => by
        rw [addr_add]
        have hj' : j < xs.length := (List.getElem?_eq_some_iff.1 hj).1
        simp only [World.cell?, hg, Nat.zero_add]
        simp [List.getElem?_append_left hj', hj]
      have hfit : Builtin.nextslicecap (n + m) cap * i.bytes ≤ 281474976710656 := by
        have h5 := nextcap_le (n := n + m) (c := cap) (by omega)
        have h6 : Builtin.nextslicecap (n + m) cap * i.bytes ≤ 2 * (n + m) * i.bytes := Nat.mul_le_mul_right _ h5
        rw [Nat.mul_assoc] at h6
        omega
      have hr := run_append_grow (P := P) w t ty e i te.z hu hi hzz ⟨g, 0, none⟩ n cap xs hxl hcells a m c news hlx hnews (by omega) (by omega) hfit
      obtain ⟨g1, g2⟩ := grownZ (e := e) (w := w) hz hlen hmax cap (by omega) [(g, .cells ⟨xs ++ rest⟩ e fz)] hA (by simp [ids])
      refine ⟨_, _, _, hr, g1, ?_⟩
      have e1 : (xs.toArray ++ news.toArray ++ Builtin.zeroCells te.z.cells (grownCap w (n + m) cap e - (n + m))) = ⟨(xs ++ news) ++ (Builtin.zeroCells te.z.cells (grownCap w (n + m) cap e - (n + m))).toList⟩ := by apply Array.ext'; simp
      rw [e1]
      exact g2
open Go.Lib in
theorem run_appendS {u : TypeId} {zu : Value} {su bu : Nat} (ht : tiOf P t = some ⟨.slice e, z, s0, b0⟩) (hte : tiOf P e = some te) (hu' : tiOf P u = some ⟨.string, zu, su, bu⟩) (hsz : te.sz = 1) (hby : te.by' = 1) (hz : te.z.cells.size = te.sz)
    {v : Value} {n : Nat} {xs : List Value} {A : HL} {w : World} (hown : OwnZ e te.sz v n xs A) (hA : ∀ g o, (g, o) ∈ A → w.heap[g]? = some o)
    (s : ByteArray) (hs0 : 0 < s.size) (hmax : n + s.size ≤ maxLen) (hbytes : n + s.size ≤ 140737488355328) (ty : TypeId) :
    ∃ v' A' w', (Builtin.append_ #[t, u] ty #[v, .string s]).run P w = .ok v' w' ∧ OwnZ e te.sz v' (n + s.size) (xs ++ strCells s) A' ∧ Eff w A w' A' := by
  obtain ⟨d, i, hd, hi, hk, hzz, hs, hb⟩ := tiOf_spec hte
  have hu := tk_slice ht
  have huu := tk_string hu'
  have hi1 : i.size = 1 := by rw [hs, hsz]
  have hib : i.bytes = 1 := by rw [hb, hby]
  have hlen : (xs ++ strCells s).length = (n + s.size) * te.sz := by rw [List.length_append, hown.1, strCells_length, hsz]; omega
  have hmx : n + s.size ≤ 9223372036854775807 := by unfold maxLen at hmax; omega
  rcases hown.2 with ⟨rfl, rfl, rfl⟩ | ⟨g, cap, rest, fz, rfl, rfl, h2, h3, h4, h5⟩
  · have hx : xs = [] := List.eq_nil_of_length_eq_zero (by simpa using hown.1)
    subst hx
    have hr := run_append_nil_string (P := P) w t u ty e i te.z hu huu hi hzz s hs0 (by omega) (by rw [hib]; omega)
    obtain ⟨g1, g2⟩ := grownZ (e := e) (w := w) hz hlen hmax 0 (by omega) [] (fun _ _ h => by cases h) (by simp [ids])
    simp only [Nat.zero_add, List.nil_append] at g1 g2 ⊢
    refine ⟨_, _, _, hr, g1, ?_⟩
    have e1 : ((s.data.map fun b => Value.int .u8 b.toNat) ++ Builtin.zeroCells te.z.cells (grownCap w s.size 0 e - s.size)) = ⟨strCells s ++ (Builtin.zeroCells te.z.cells (grownCap w s.size 0 e - s.size)).toList⟩ := by apply Array.ext'; simp [strCells]
    rw [e1]
    exact g2
  · have hg := hA g _ List.mem_cons_self
    have hxl1 : xs.length = n := by rw [hown.1, hsz, Nat.mul_one]
    have h4' : xs.length + rest.length = cap := by rw [hsz, Nat.mul_one] at h4; simpa using h4
    by_cases hroom : n + s.size ≤ cap
    · have hrl : (strCells s).length ≤ rest.length := by rw [strCells_length]; omega
      obtain ⟨w', hst, E⟩ := run_storeCellsZ (P := P) (e := e) (strCells s) (xs ++ rest) xs.length 0 w hg (by rw [h4]; exact h5) (by simp; omega) (strCells_oneCell s)
      simp only [Nat.add_zero] at E
      rw [putC_append (strCells s) xs rest hrl] at E
      refine ⟨.slice (some ⟨g, 0, none⟩) (n + s.size) cap, _, w', ?_, ⟨hlen, .inr ⟨g, cap, rest.drop (strCells s).length, fz, rfl, rfl, hroom, h3, ?_, h5⟩⟩, E⟩
      · have hf := run_firstCells_string (P := P) w 1 s
        rw [hxl1] at hst
        simp [Builtin.append_, run_underlying hu, run_underlying huu, sizeOf, typeInfo, hi, hi1, Builtin.lenOf, hroom, hf, addr_add, hst]
      · rw [hsz]
        simp only [List.length_append, List.length_drop, strCells_length]
        rw [strCells_length] at hrl
        omega
    · have hcells : ∀ j u, xs[j]? = some u → w.cell? ((⟨g, 0, none⟩ : Addr).add j) = some u := fun j u hj => by
        rw [addr_add]
        have hj' : j < xs.length := (List.getElem?_eq_some_iff.1 hj).1
        simp only [World.cell?, hg, Nat.zero_add]
        simp [List.getElem?_append_left hj', hj]
      have hfit : Builtin.nextslicecap (n + s.size) cap * i.bytes ≤ 281474976710656 := by
        have h5 := nextcap_le (n := n + s.size) (c := cap) (by omega)
        rw [hib]; omega
      have hr := run_append_grow_string (P := P) w t u ty e i te.z hu huu hi hzz ⟨g, 0, none⟩ n cap xs (by rw [hi1, hxl1, Nat.mul_one]) hcells s (by omega) (by omega) hfit
      obtain ⟨g1, g2⟩ := grownZ (e := e) (w := w) hz hlen hmax cap (by omega) [(g, .cells ⟨xs ++ rest⟩ e fz)] hA (by simp [ids])
      refine ⟨_, _, _, hr, g1, ?_⟩
      have e1 : (xs.toArray ++ (strCells s).toArray ++ Builtin.zeroCells te.z.cells (grownCap w (n + s.size) cap e - (n + s.size))) = ⟨(xs ++ strCells s) ++ (Builtin.zeroCells te.z.cells (grownCap w (n + s.size) cap e - (n + s.size))).toList⟩ := by apply Array.ext'; simp
      rw [e1]
      exact g2
end
end Go.Wk

/- Strings put together, rows of bytes to strings, pointers without a type. -/
namespace Go.Wk
open Go.Lib
set_option linter.unusedVariables false
set_option linter.unusedSimpArgs false
theorem tk_ptr {P : Program} {t e : TypeId} {z : Value} {s b : Nat} (h : tiOf P t = some ⟨.pointer e, z, s, b⟩) : P.underlying t = some (.pointer e) := by
  obtain ⟨d, i, hu, _, hk, _⟩ := tiOf_spec h
  cases d <;> simp [tkOf] at hk
  subst hk; exact hu
section
variable {X : Cx} {L : LT} {d : Nat} {x y : Operand} {t ty yt : TypeId} {p : String} {af : Array Edge}
theorem p_addT {a b : ByteArray} (hx : ev L x = some (.string a)) (hy : ev L y = some (.string b)) (hs : a.size + b.size ≤ 9223372036854775807) : PR X.s.P L (⟨some d, .binOp .add t x y yt, ty, p, af, none⟩ : Oper) (.string (a ++ b)) := fun ρ w h => by
  simp only [execOp]; rw [h x _ hx, h y _ hy]
  have e : (do eqGuard .add t x y (.string a) (.string b); binOp .add t (.string a) (.string b) : Sem Value).run X.s.P w = .ok (.string (a ++ b)) w := by
    simp [eqGuard, binOp_string_add, run_string_add_sum w a b hs]
  rw [Sem.run_bind, e]; rfl
theorem p_shr8 {a b : Int} {yk : IntKind} (hx : ev L x = some (.int .u8 a)) (hy : ev L y = some (.int yk b)) (h0 : 0 ≤ b) (h8 : b ≤ 8) : PR X.s.P L (⟨some d, .binOp .shr t x y yt, ty, p, af, none⟩ : Oper) (.int .u8 (a / 2 ^ b.toNat)) := fun ρ w h => by
  simp only [execOp]; rw [h x _ hx, h y _ hy]
  have e : (do eqGuard .shr t x y (.int .u8 a) (.int yk b); binOp .shr t (.int .u8 a) (.int yk b) : Sem Value).run X.s.P w = .ok (.int .u8 (a / 2 ^ b.toNat)) w := by
    rw [eqGuard_shr, binOp_shr, shift_shr .u8 yk a b h0 h8]; rfl
  rw [Sem.run_bind, e]; rfl
/-- b[:hi]. -/
theorem p_slH {q : Operand} {e : TypeId} {z : Value} {s b : Nat} {te : Ti} {ik : IntKind} {A : Option Addr} {n c hi : Nat} (hx : ev L x = some (.slice A n c)) (hq : ev L q = some (.int ik hi)) (ht : tl X.s.tab t = some ⟨.slice e, z, s, b⟩) (hte : tl X.s.tab e = some te)
    (h2 : hi ≤ c) : PR X.s.P L (⟨some d, .slice t x none (some q) none, ty, p, af, none⟩ : Oper) (.slice A hi c) :=
  fun ρ w hv => by
    have hu := tk_slice (X.s.ok.at ht)
    have h4 : (0 : Int) ≤ hi ∧ (hi : Int) ≤ c := by omega
    simp only [execOp, Option.map, hv x _ hx, hv q _ hq]
    have ez : ∀ a : Addr, a.add 0 = a := fun a => by simp [Addr.add]
    cases A with
    | none => simp [Instr.sliceAt, Instr.slice, run_underlying hu, Instr.sliceBounds, Instr.sliceBound, asIntOf, h4, run_sizeOf (X.s.ok.at hte), h2]
    | some a =>
      by_cases hc : c = 0
      · subst hc
        have h0 : hi = 0 := by omega
        subst h0
        simp [Instr.sliceAt, Instr.slice, run_underlying hu, Instr.sliceBounds, Instr.sliceBound, asIntOf, run_sizeOf (X.s.ok.at hte), ez]
      · simp [Instr.sliceAt, Instr.slice, run_underlying hu, Instr.sliceBounds, Instr.sliceBound, asIntOf, h4, run_sizeOf (X.s.ok.at hte), h2, hc, ez]
theorem evs_eval {ρ : Operand → Value} (h : ∀ x u, ev L x = some u → ρ x = u) : ∀ {l : List Operand} {vs : List Value}, evs L l = some vs → l.map ρ = vs := fun hh => evs_map (fun x u hx => h x u hx) hh
/-- A call of a function without a body that answers at once. -/
theorem p_extF {g : FuncId} {fn : Func} {e : Array Value → Sem Value} {f : Operand} {xs : Array Operand} {ats : Array TypeId} {vs : List Value} {v : Value} (hf : ev L f = some (.func (.func g) #[] #[])) (hg : X.s.P.funcs[g]? = some fn) (hn : (fn.name == "runtime.NumGoroutine") = false)
    (hb : fn.body.isNone = true) (hx : Extern.findNext fn = none) (he : Extern.find fn = some e) (hxs : evs L xs.toList = some vs) (hr : ∀ w, (e vs.toArray).run X.s.P w = .ok v w) :
    PR X.s.P L (⟨some d, .call ⟨.value f, xs, ats⟩, ty, p, af, none⟩ : Oper) v := fun ρ w h => by
  have hmap : xs.map ρ = vs.toArray := by
    have := evs_eval h hxs
    apply Array.ext'; simpa using this
  simp only [execOp, resolve, hmap, h f _ hf, Deferred.ofValue, Sem.run_bind, run_pure', Result.andThen_ok, invoke]
  have e1 : (#[] : Array Value) ++ vs.toArray ++ #[] = vs.toArray := by simp
  rw [e1, run_callFunc_extern hg hn hb hx he, hr]; rfl
theorem p_eqPN {e : TypeId} {z : Value} {s b : Nat} {q : Option Addr} {te : Ti} (hx : ev L x = some (.pointer q)) (hy : ev L y = some (.pointer none)) (ht : tl X.s.tab t = some ⟨.pointer e, z, s, b⟩) (hte : tl X.s.tab e = some te) : PR X.s.P L (⟨some d, .binOp .eql t x y yt, ty, p, af, none⟩ : Oper) (.bool q.isNone) := fun ρ w h => by
  simp only [execOp]; rw [h x _ hx, h y _ hy]
  have hu := tk_ptr (X.s.ok.at ht)
  obtain ⟨d, i, _, hi, _⟩ := tiOf_spec (X.s.ok.at hte)
  have e : (do eqGuard .eql t x y (.pointer q) (.pointer none); binOp .eql t (.pointer q) (.pointer none) : Sem Value).run X.s.P w = .ok (.bool q.isNone) w := by
    have hh : ∀ d : Nat, (Op.equalIn (d + 1) t (.pointer q) (.pointer none)).run X.s.P w = .ok q.isNone w := fun d => by
      cases q <;> simp [Op.equalIn, run_underlying hu]
    rw [show eqGuard .eql t x y (.pointer q) (.pointer none) = pure () from rfl]
    show (binOp .eql t (.pointer q) (.pointer none)).run X.s.P w = _
    simp only [binOp]
    simp [Op.equal, Op.maxDepth, hh 9999]
  rw [Sem.run_bind, e]; rfl
theorem p_nePS {e : TypeId} {z : Value} {s b : Nat} {a : Addr} {te : Ti} (hx : ev L x = some (.pointer (some a))) (hy : ev L y = some (.pointer (some a))) (ht : tl X.s.tab t = some ⟨.pointer e, z, s, b⟩) (hte : tl X.s.tab e = some te) : PR X.s.P L (⟨some d, .binOp .neq t x y yt, ty, p, af, none⟩ : Oper) (.bool false) := fun ρ w h => by
  simp only [execOp]; rw [h x _ hx, h y _ hy]
  have hu := tk_ptr (X.s.ok.at ht)
  obtain ⟨d, i, _, hi, _⟩ := tiOf_spec (X.s.ok.at hte)
  have e : (do eqGuard .neq t x y (.pointer (some a)) (.pointer (some a)); binOp .neq t (.pointer (some a)) (.pointer (some a)) : Sem Value).run X.s.P w = .ok (.bool false) w := by
    rw [show eqGuard .neq t x y (.pointer (some a)) (.pointer (some a)) = pure () from rfl]
    exact Lib.run_neq_ptr_same w a hu hi
  rw [Sem.run_bind, e]; rfl
/-- unsafe.SliceData of a row. -/
theorem p_sd {ts : Array TypeId} {A : Addr} {n c : Nat} (hx : ev L x = some (.slice (some A) n c)) (hc : c ≠ 0) : PR X.s.P L (⟨some d, .call ⟨.builtin .unsafeSliceData, #[x], ts⟩, ty, p, af, none⟩ : Oper) (.pointer (some A)) := fun ρ w h => by
  simp only [execOp]
  simp [resolve, invoke, builtin, h x _ hx, Lib.run_unsafeSliceData_row w ts ty A n c hc]
end
section
variable {X : Cx} {ops : Array Oper} {Q : Post} {rest : List Oper} {L : LT} {R : RL} {d : Nat} {x y : Operand} {t u ty : TypeId} {p : String} {af : Array Edge} {v : Value}
theorem freeze_any {w : World} {g k n : Nat} {c : Array Value} {e : TypeId} {fz : Nat × Nat} (h : w.heap[g]? = some (.cells c e fz)) :
    ∃ fz', Eff w [(g, .cells c e fz)] (w.freeze ⟨g, k, none⟩ n) [(g, .cells c e fz')] := by
  by_cases hn : n = 0
  · refine ⟨fz, ?_⟩
    have : w.freeze ⟨g, k, none⟩ n = w := by unfold World.freeze; rw [if_pos hn]
    rw [this]
    exact Eff.put h h (fun _ _ => rfl) rfl rfl rfl rfl
  · obtain ⟨lo, hi⟩ := fz
    refine ⟨_, Eff.put h (o' := .cells c e (if lo = hi then (k, k + n) else (min lo k, max hi (k + n)))) ?_ (fun z hz => ?_) ?_ ?_ ?_ ?_⟩
    · unfold World.freeze
      rw [if_neg hn]
      simp only [Array.getElem?_modify]
      simp [h]
    · unfold World.freeze
      rw [if_neg hn]
      simp only [Array.getElem?_modify]
      rw [if_neg (fun e => hz e.symm)]
    · unfold World.freeze; split <;> simp
    · unfold World.freeze; split <;> rfl
    · unfold World.freeze; split <;> rfl
    · unfold World.freeze; split <;> rfl
/-- A row's bytes as a string. -/
theorem g_bstr {e : TypeId} {A : Option Addr} {c : Nat} {l : List UInt8} {z z' zu : Value} {s b s' b' su bu : Nat} (hx : ev L x = some (.slice A l.length c)) (ht : tl X.s.tab t = some ⟨.slice e, z, s, b⟩) (he : tl X.s.tab e = some ⟨.int .u8, z', s', b'⟩) (hu : tl X.s.tab u = some ⟨.string, zu, su, bu⟩) (hN : Nat.blt d X.N = true)
    (hr : ∀ w, Hp X w R → Rd (hw w) (fun b : UInt8 => [.int .u8 b.toNat]) 1 A l)
    (k : G X ops Q rest ((d, .string ⟨l.toArray⟩) :: L) R) : G X ops Q (⟨some d, .convert t u x, ty, p, af, none⟩ :: rest) L R :=
  g_run (Y := Unit) (fun _ => .string ⟨l.toArray⟩) (fun _ => R) (fun _ => True) rfl rfl hN (by intro c h; cases h)
    (fun a w ha hE => by
      have h1 := tk_slice (X.s.ok.at ht)
      have h2 := tk_int (X.s.ok.at he)
      have h3 := tk_string (X.s.ok.at hu)
      refine ⟨(), w, ?_, hE, trivial⟩
      simp only [execOp, ha.kn.ev hx]
      rw [Sem.run_bind]
      have e : (convert t u (.slice A l.length c)).run X.s.P w = .ok (.string ⟨l.toArray⟩) w := by
        cases A with
        | none =>
          have hl : l = [] := by
            cases l with
            | nil => rfl
            | cons q r => obtain ⟨_, _, h, _⟩ := hr w hE 0 q rfl; cases h
          subst hl
          rw [run_convert_bytes_string w t u e none _ c h1 h2 h3]
          rfl
        | some ad =>
          refine run_convert_bytes_back w t u e ad c l h1 h2 h3 (fun j hj => ?_)
          obtain ⟨b, o, ha, hc⟩ := hr w hE j _ (List.getElem?_eq_getElem hj)
          cases ha
          rw [addr_add]
          have := hc 0 _ rfl
          rw [cellAt_hw] at this
          simpa using this
      rw [e]; rfl) (fun _ _ => k)
/-- append(b, s...), s a string. -/
theorem g_appS (i : Nat) {A : HL} {e : TypeId} {z zu : Value} {s0 b0 su bu : Nat} {te : Ti} {n : Nat} {xs : List Value} {s : ByteArray}
    (hR : R[i]? = some A) (hx : ev L x = some v) (hy : ev L y = some (.string s)) (ht : tl X.s.tab t = some ⟨.slice e, z, s0, b0⟩) (hte : tl X.s.tab e = some te) (hu : tl X.s.tab u = some ⟨.string, zu, su, bu⟩) (hsz : te.sz = 1) (hby : te.by' = 1) (hz : te.z.cells.size = te.sz)
    (hown : OwnZ e te.sz v n xs A) (hs0 : 0 < s.size) (hmax : n + s.size ≤ maxLen) (hbytes : n + s.size ≤ 140737488355328) (hN : Nat.blt d X.N = true)
    (k : ∀ v' A', OwnZ e te.sz v' (n + s.size) (xs ++ strCells s) A' → G X ops Q rest ((d, v') :: L) (R.set i A')) :
    G X ops Q (⟨some d, .call ⟨.builtin .append, #[x, y], #[t, u]⟩, ty, p, af, none⟩ :: rest) L R :=
  g_run (Y := Value × HL) (fun q => q.1) (fun q => R.set i q.2) (fun q => OwnZ e te.sz q.1 (n + s.size) (xs ++ strCells s) q.2) rfl rfl hN (by intro c h; cases h)
    (fun a w ha hE => by
      have H1 := hp_pick i hR hE
      obtain ⟨v', A', w', hr, ho, E⟩ := run_appendS (X.s.ok.at ht) (X.s.ok.at hte) (X.s.ok.at hu) hsz hby hz hown (fun g o hg => H1.holds g o (List.mem_append_left _ hg)) s hs0 hmax hbytes ty
      refine ⟨(v', A'), w', ?_, hp_front i hR hE E, ho⟩
      simp only [execOp]
      simp [resolve, invoke, builtin, ha.kn.ev hx, ha.kn.ev hy, hr]) (fun q hq => k q.1 q.2 hq)
/-- append(b, more...), more a row that is not empty, as lists. -/
theorem g_appZ (i : Nat) {A : HL} {e : TypeId} {z : Value} {s0 b0 : Nat} {te : Ti} {n m c : Nat} {xs news : List Value} {ad : Addr}
    (hR : R[i]? = some A) (hx : ev L x = some v) (hy : ev L y = some (.slice (some ad) m c)) (ht : tl X.s.tab t = some ⟨.slice e, z, s0, b0⟩) (hte : tl X.s.tab e = some te) (hsz : Nat.blt 0 te.sz = true) (hz : te.z.cells.size = te.sz)
    (hown : OwnZ e te.sz v n xs A) (hl : news.length = m * te.sz) (hm0 : 0 < m) (hn : ∀ w, Hp X w R → ∀ j u, news[j]? = some u → w.cell? (ad.add j) = some u) (h1 : ∀ u ∈ news, u.oneCell' = true)
    (hmax : n + m ≤ maxLen) (hbytes : (n + m) * te.by' ≤ 140737488355328) (hN : Nat.blt d X.N = true)
    (k : ∀ v' A', OwnZ e te.sz v' (n + m) (xs ++ news) A' → G X ops Q rest ((d, v') :: L) (R.set i A')) :
    G X ops Q (⟨some d, .call ⟨.builtin .append, #[x, y], #[t, t]⟩, ty, p, af, none⟩ :: rest) L R :=
  g_run (Y := Value × HL) (fun q => q.1) (fun q => R.set i q.2) (fun q => OwnZ e te.sz q.1 (n + m) (xs ++ news) q.2) rfl rfl hN (by intro c h; cases h)
    (fun a w ha hE => by
      have H1 := hp_pick i hR hE
      obtain ⟨v', A', w', hr, ho, E⟩ := run_appendZ (X.s.ok.at ht) (X.s.ok.at hte) (show 0 < te.sz from Nat.le_of_ble_eq_true hsz) hz hown (fun g o hg => H1.holds g o (List.mem_append_left _ hg)) hl (c := c) hm0 (hn w hE) h1 hmax hbytes ty
      refine ⟨(v', A'), w', ?_, hp_front i hR hE E, ho⟩
      simp only [execOp]
      simp [resolve, invoke, builtin, ha.kn.ev hx, ha.kn.ev hy, hr]) (fun q hq => k q.1 q.2 hq)
/-- A pointer to one without a type, and back. -/
theorem g_toU (i : Nat) {b o : Nat} {l : List Value} {e tt : TypeId} {fz : Nat × Nat} {A : HL} {z : Value} {s b0 : Nat} {ti : Ti} (hR : R[i]? = some ((b, .cells ⟨l⟩ e fz) :: A)) (hx : ev L x = some (.pointer (some ⟨b, o, none⟩))) (ht : tl X.s.tab t = some ⟨.pointer tt, z, s, b0⟩) (htt : tl X.s.tab tt = some ti) (hsz : Nat.beq ti.sz 0 = false)
    (hu : X.s.P.underlying u = some .unsafePointer) (ho : Nat.blt o l.length = true) (hN : Nat.blt d X.N = true)
    (k : G X ops Q rest ((d, .pointer (some ⟨b, o, none⟩)) :: L) R) : G X ops Q (⟨some d, .convert t u x, ty, p, af, none⟩ :: rest) L R :=
  g_run (Y := Unit) (fun _ => .pointer (some ⟨b, o, none⟩)) (fun _ => R) (fun _ => True) rfl rfl hN (by intro c h; cases h)
    (fun a w ha hE => by
      have hb := hp_cellA hE hR
      obtain ⟨_, ii, _, hi, _, _, hs, _⟩ := tiOf_spec (X.s.ok.at htt)
      have hsh : w.shape? b = some (e, l.length) := by simp [World.shape?, hb]
      refine ⟨(), w, ?_, hE, trivial⟩
      simp only [execOp, ha.kn.ev hx]
      rw [Sem.run_bind, Lib.run_to_unsafe w ⟨b, o, none⟩ (tk_ptr (X.s.ok.at ht)) hu hi (by rw [hs]; exact Nat.ne_of_beq_eq_false hsz) hsh (Nat.le_of_ble_eq_true ho)]
      rfl) (fun _ _ => k)
theorem g_fromU (i : Nat) {b o : Nat} {l : List Value} {e tt : TypeId} {fz : Nat × Nat} {A : HL} {z : Value} {s b0 : Nat} {ti : Ti} (hR : R[i]? = some ((b, .cells ⟨l⟩ e fz) :: A)) (hx : ev L x = some (.pointer (some ⟨b, o, none⟩))) (hu : X.s.P.underlying t = some .unsafePointer) (ht : tl X.s.tab u = some ⟨.pointer tt, z, s, b0⟩) (htt : tl X.s.tab tt = some ti)
    (hl : liesAt X.s.P X.s.P.depth e (l.length / X.s.P.cellsOf e) o tt 1 = true) (hN : Nat.blt d X.N = true)
    (k : G X ops Q rest ((d, .pointer (some ⟨b, o, none⟩)) :: L) R) : G X ops Q (⟨some d, .convert t u x, ty, p, af, none⟩ :: rest) L R :=
  g_run (Y := Unit) (fun _ => .pointer (some ⟨b, o, none⟩)) (fun _ => R) (fun _ => True) rfl rfl hN (by intro c h; cases h)
    (fun a w ha hE => by
      have hb := hp_cellA hE hR
      obtain ⟨_, ii, _, hi, _, _, hs, _⟩ := tiOf_spec (X.s.ok.at htt)
      have hsh : w.shape? b = some (e, l.length) := by simp [World.shape?, hb]
      refine ⟨(), w, ?_, hE, trivial⟩
      simp only [execOp, ha.kn.ev hx]
      rw [Sem.run_bind, Lib.run_from_unsafe w ⟨b, o, none⟩ hu (tk_ptr (X.s.ok.at ht)) hi hsh hl]
      rfl) (fun _ _ => k)
/-- unsafe.String over a row of one's own, which is given up. -/
theorem g_ustr (i : Nat) {g : Nat} {l : List Value} {bs : List UInt8} {e it : TypeId} {z : Value} {s b0 : Nat} {fz : Nat × Nat} (hR : R[i]? = some [(g, .cells ⟨l⟩ e fz)]) (hx : ev L x = some (.pointer (some ⟨g, 0, none⟩))) (hy : ev L y = some (.int .i64 bs.length)) (ht : tl X.s.tab t = some ⟨.pointer e, z, s, b0⟩) (hc : X.s.P.cellsOf e = 1)
    (h0 : bs ≠ []) (hfit : bs.length ≤ l.length) (h63 : bs.length ≤ 9223372036854775807) (hb : ∀ (j : Nat) (x : UInt8), bs[j]? = some x → l[j]? = some (Value.int .u8 x.toNat)) (hN : Nat.blt d X.N = true)
    (k : G X ops Q rest ((d, .string ⟨bs.toArray⟩) :: L) (R.set i [])) : G X ops Q (⟨some d, .call ⟨.builtin .unsafeString, #[x, y], #[t, it]⟩, ty, p, af, none⟩ :: rest) L R :=
  g_run (Y := Unit) (fun _ => .string ⟨bs.toArray⟩) (fun _ => R.set i []) (fun _ => True) rfl rfl hN (by intro c h; cases h)
    (fun a w ha hE => by
      have hg := hp_cellA hE hR
      have hsh : w.shape? g = some (e, l.length) := by simp [World.shape?, hg]
      have hr := Lib.run_unsafeString_row (P := X.s.P) w t it ty e (tk_ptr (X.s.ok.at ht)) hc g l.length hsh bs h0 hfit h63 (fun j q hj => by
        rw [addr_add]
        simp only [World.cell?, hg]
        simpa using hb j q hj)
      obtain ⟨fz', E0⟩ := freeze_any (k := 0) (n := bs.length) hg
      have E := Eff.sel E0 (A' := []) _ (List.Perm.refl _)
      refine ⟨(), w.freeze ⟨g, 0, none⟩ bs.length, ?_, hp_front i hR hE E, trivial⟩
      simp only [execOp]
      simp [resolve, invoke, builtin, ha.kn.ev hx, ha.kn.ev hy, hr]) (fun _ _ => k)
end
end Go.Wk

/- Own blocks handed to a call; a row of bytes. -/
namespace Go.Wk
set_option linter.unusedVariables false
set_option linter.unusedSimpArgs false
theorem hp_own {X : Cx} {w : World} {A F : RL} (H : Hp X w (A ++ F)) : Eff w A.flatten w A.flatten := by
  unfold Hp at H
  rw [List.flatten_append] at H
  refine Eff.start w _ (fun b o hb => H.holds b o (List.mem_append_left _ hb)) ?_
  have := H.nodup
  rw [ids_append] at this
  exact (List.nodup_append.1 this).1
theorem hp_join {X : Cx} {w : World} {A F : RL} (H : Hp X w (A ++ F)) : Hp X w (A.flatten :: F) := by
  unfold Hp at H ⊢
  rw [List.flatten_append] at H
  rw [List.flatten_cons]; exact H
theorem old_leA (s : Sx) (w : World) (A : HL) {ro : Option Nat} {n N : Nat} {ds : List Deferred} : Hle (exc w A) (Oldh ⟨s, ro, n, N, ds, w, A⟩) := fun b o h => h
def bcells (l : List UInt8) : List Value := l.map fun b => .int .u8 b.toNat
theorem bcells_append (l m : List UInt8) : bcells (l ++ m) = bcells l ++ bcells m := by simp [bcells]
theorem bcells_length (l : List UInt8) : (bcells l).length = l.length := by simp [bcells]
theorem bcells_at {l : List UInt8} {j : Nat} {x : UInt8} (h : l[j]? = some x) : (bcells l)[j]? = some (.int .u8 x.toNat) := by simp [bcells, h]
/-- What reads a row of one's own. -/
theorem ownZ_rd {e : TypeId} {v : Value} {l : List UInt8} {A : HL} {w : World} (h : OwnZ e 1 v l.length (bcells l) A) (hA : ∀ b o, (b, o) ∈ A → w.heap[b]? = some o) :
    ∃ ad c, v = .slice ad l.length c ∧ Rd (hw w) (fun b : UInt8 => [.int .u8 b.toNat]) 1 ad l := by
  rcases h.2 with ⟨rfl, h0, rfl⟩ | ⟨g, cap, rest, fz, rfl, rfl, h1, h2, h3, h4⟩
  · refine ⟨none, 0, by rw [h0], fun i x hx => ?_⟩
    rw [List.eq_nil_of_length_eq_zero h0] at hx; cases hx
  · refine ⟨_, cap, rfl, fun i x hx => ⟨g, 0, rfl, fun j u hu => ?_⟩⟩
    have hb := hA g _ List.mem_cons_self
    cases j with
    | succ j => cases hu
    | zero =>
      simp only [List.getElem?_cons_zero, Option.some.injEq] at hu
      subst hu
      unfold cellAt hw
      rw [hb]
      have hi : i < (bcells l).length := by rw [bcells_length]; exact (List.getElem?_eq_some_iff.1 hx).1
      have := bcells_at hx
      simp only [Nat.zero_add, Nat.mul_one, Nat.add_zero]
      simp [List.getElem?_append_left hi, this]
end Go.Wk

/- The shelf's numbers of strings.Join and strconv.Itoa at this translation, as the kit's lay-plain wrote them. -/
namespace Go.Proofs
open Go.Shelf
def Tryz.lays156_ren : Go.Shelf.Ren := ⟨fun | 156 => 57 | 165 => 104 | 166 => 56 | 169 => 40 | 240 => 103 | 241 => 136 | 276 => 135 | 277 => 153 | n => n, fun | 31 => 88 | 9 => 9 | 3 => 3 | 4 => 4 | 0 => 0 | 20 => 20 | 72 => 82 | 76 => 111 | 70 => 80 | 37 => 61 | 75 => 110 | 127 => 116 | 164 => 176 | 5 => 5 | 80 => 93 | n => n, fun | n => n⟩
theorem Tryz.lays156 : Go.Proofs.Lays.n156 Tryz.prog Tryz.lays156_ren := {
  mixed := by kernel_rfl
  f156 := Tryz.func57.trans (congrArg some (by kernel_rfl))
  f165 := Tryz.func104.trans (congrArg some (by kernel_rfl))
  f166 := Tryz.func56.trans (congrArg some (by kernel_rfl))
  f169 := Tryz.func40.trans (congrArg some (by kernel_rfl))
  f240 := Tryz.func103.trans (congrArg some (by kernel_rfl))
  f241 := Tryz.func136.trans (congrArg some (by kernel_rfl))
  f276 := Tryz.func135.trans (congrArg some (by kernel_rfl))
  f277 := Tryz.func153.trans (congrArg some (by kernel_rfl))
  t0 := Tryz.underlying0
  a0 := Tryz.isAgg0
  z0 := Tryz.sizeOf0
  v0 := Tryz.zeroValue0
  t3 := Tryz.underlying3
  a3 := Tryz.isAgg3
  z3 := Tryz.sizeOf3
  v3 := Tryz.zeroValue3
  t4 := Tryz.underlying4
  a4 := Tryz.isAgg4
  z4 := Tryz.sizeOf4
  v4 := Tryz.zeroValue4
  t9 := Tryz.underlying9
  a9 := Tryz.isAgg9
  z9 := Tryz.sizeOf9
  v9 := Tryz.zeroValue9
  t20 := Tryz.underlying20
  a20 := Tryz.isAgg20
  z20 := Tryz.sizeOf20
  v20 := Tryz.zeroValue20
  t31 := Tryz.underlying88
  a31 := Tryz.isAgg88
  z31 := Tryz.sizeOf88
  v31 := Tryz.zeroValue88
  t37 := Tryz.underlying61
  a37 := Tryz.isAgg61
  z37 := Tryz.sizeOf61
  v37 := Tryz.zeroValue61
  t70 := Tryz.underlying80
  a70 := Tryz.isAgg80
  z70 := Tryz.sizeOf80
  v70 := Tryz.zeroValue80
  t72 := Tryz.underlying82
  a72 := Tryz.isAgg82
  z72 := Tryz.sizeOf82
  v72 := Tryz.zeroValue82
  t75 := Tryz.underlying110
  a75 := Tryz.isAgg110
  z75 := Tryz.sizeOf110
  v75 := Tryz.zeroValue110
  t76 := Tryz.underlying111
  a76 := Tryz.isAgg111
  z76 := Tryz.sizeOf111
  v76 := Tryz.zeroValue111
  t127 := Tryz.underlying116
  a127 := Tryz.isAgg116
  z127 := Tryz.sizeOf116
  v127 := Tryz.zeroValue116
  t164 := Tryz.underlying176
  a164 := Tryz.isAgg176
  z164 := Tryz.sizeOf176
  v164 := Tryz.zeroValue176 }
theorem Tryz.Builder_Extra_156 : Builder.Extra Tryz.prog Tryz.lays156_ren := {
  sizeBuilder := by kernel_rfl
  liesBuilder := by kernel_rfl
  t5 := Tryz.underlying5
  a5 := Tryz.isAgg5
  z5 := Tryz.sizeOf5
  v5 := Tryz.zeroValue5
  infoByte := by kernel_rfl
  cellsByte := by kernel_rfl
  sizeByte := by kernel_rfl
  neB5 := by decide }
def Tryz.laysM171_ren : Go.Shelf.Ren := ⟨fun | 171 => 58 | 243 => 105 | 246 => 137 | 283 => 154 | 284 => 155 | 285 => 156 | 286 => 157 | 129 => 93 | 317 => 171 | 318 => 172 | 319 => 173 | 320 => 174 | 337 => 183 | 338 => 184 | n => n, fun | 3 => 3 | 9 => 9 | 2 => 2 | 4 => 4 | 171 => 193 | 0 => 0 | 53 => 148 | 37 => 61 | 5 => 5 | 173 => 195 | 212 => 207 | 51 => 38 | 20 => 20 | 213 => 208 | 46 => 105 | 232 => 224 | 233 => 225 | n => n, fun | 17 => 1 | 18 => 6 | 19 => 7 | n => n⟩
theorem Tryz.laysM171 : Go.Proofs.LaysM.n171 Tryz.prog Tryz.laysM171_ren := {
  mixed := by kernel_rfl
  f129 := Tryz.func93.trans (congrArg some (by kernel_rfl))
  f171 := Tryz.func58.trans (congrArg some (by kernel_rfl))
  f243 := Tryz.func105.trans (congrArg some (by kernel_rfl))
  f246 := Tryz.func137.trans (congrArg some (by kernel_rfl))
  f283 := Tryz.func154.trans (congrArg some (by kernel_rfl))
  f284 := Tryz.func155.trans (congrArg some (by kernel_rfl))
  f285 := Tryz.func156.trans (congrArg some (by kernel_rfl))
  f286 := Tryz.func157.trans (congrArg some (by kernel_rfl))
  f317 := Tryz.func171.trans (congrArg some (by kernel_rfl))
  f318 := Tryz.func172.trans (congrArg some (by kernel_rfl))
  f319 := Tryz.func173.trans (congrArg some (by kernel_rfl))
  f320 := Tryz.func174.trans (congrArg some (by kernel_rfl))
  f337 := Tryz.func183.trans (congrArg some (by kernel_rfl))
  f338 := Tryz.func184.trans (congrArg some (by kernel_rfl))
  t0 := Tryz.underlying0
  a0 := Tryz.isAgg0
  z0 := Tryz.sizeOf0
  v0 := Tryz.zeroValue0
  t2 := Tryz.underlying2
  a2 := Tryz.isAgg2
  z2 := Tryz.sizeOf2
  v2 := Tryz.zeroValue2
  t3 := Tryz.underlying3
  a3 := Tryz.isAgg3
  z3 := Tryz.sizeOf3
  v3 := Tryz.zeroValue3
  t4 := Tryz.underlying4
  a4 := Tryz.isAgg4
  z4 := Tryz.sizeOf4
  v4 := Tryz.zeroValue4
  t5 := Tryz.underlying5
  a5 := Tryz.isAgg5
  z5 := Tryz.sizeOf5
  v5 := Tryz.zeroValue5
  t9 := Tryz.underlying9
  a9 := Tryz.isAgg9
  z9 := Tryz.sizeOf9
  v9 := Tryz.zeroValue9
  t20 := Tryz.underlying20
  a20 := Tryz.isAgg20
  z20 := Tryz.sizeOf20
  v20 := Tryz.zeroValue20
  t37 := Tryz.underlying61
  a37 := Tryz.isAgg61
  z37 := Tryz.sizeOf61
  v37 := Tryz.zeroValue61
  t46 := Tryz.underlying105
  a46 := Tryz.isAgg105
  z46 := Tryz.sizeOf105
  v46 := Tryz.zeroValue105
  t51 := Tryz.underlying38
  a51 := Tryz.isAgg38
  z51 := Tryz.sizeOf38
  v51 := Tryz.zeroValue38
  t53 := Tryz.underlying148
  a53 := Tryz.isAgg148
  z53 := Tryz.sizeOf148
  v53 := Tryz.zeroValue148
  t171 := Tryz.underlying193
  a171 := Tryz.isAgg193
  z171 := Tryz.sizeOf193
  v171 := Tryz.zeroValue193
  t173 := Tryz.underlying195
  a173 := Tryz.isAgg195
  z173 := Tryz.sizeOf195
  v173 := Tryz.zeroValue195
  t212 := Tryz.underlying207
  a212 := Tryz.isAgg207
  z212 := Tryz.sizeOf207
  v212 := Tryz.zeroValue207
  t213 := Tryz.underlying208
  a213 := Tryz.isAgg208
  z213 := Tryz.sizeOf208
  t232 := Tryz.underlying224
  a232 := Tryz.isAgg224
  z232 := Tryz.sizeOf224
  v232 := Tryz.zeroValue224
  t233 := Tryz.underlying225
  a233 := Tryz.isAgg225
  z233 := Tryz.sizeOf225
  v233 := Tryz.zeroValue225
  g17 := by kernel_rfl
  g18 := by kernel_rfl
  g19 := by kernel_rfl
  i0 := by kernel_rfl
  i2 := by kernel_rfl
  i3 := by kernel_rfl
  i4 := by kernel_rfl
  i5 := by kernel_rfl
  i9 := by kernel_rfl
  i20 := by kernel_rfl
  i37 := by kernel_rfl
  i46 := by kernel_rfl
  i51 := by kernel_rfl
  i53 := by kernel_rfl
  i171 := by kernel_rfl
  i173 := by kernel_rfl
  i212 := by kernel_rfl
  i232 := by kernel_rfl
  i233 := by kernel_rfl
  m17 := by kernel_rfl
  m18 := by kernel_rfl
  m19 := by kernel_rfl }
end Go.Proofs

/- strings.Builder: copyCheck, WriteString, Len, String; a line of a writer. -/
namespace Go.Proofs.YtpohhfggmaihpaaGreatDoor
open Go.Wk
set_option linter.unusedVariables false
set_option linter.unusedSimpArgs false
attribute [local irreducible] G GC GQ GA GS Exit.then Exit.inBlock

/-- A text that is being gathered: its block b, and the row. -/
def BW (b : Nat) (l : List UInt8) (R : RL) : Prop := ∃ pv v A, (pv = none ∨ pv = some (⟨b, 0, none⟩ : Addr)) ∧ R = [[(b, .cells ⟨[.pointer pv, v]⟩ 84 (0, 0))], A] ∧ OwnZ 5 1 v l.length (bcells l) A
theorem noEscape_find : ∃ e, Extern.find Tryz.f135 = some e ∧ ∀ v w, (e #[v]).run Tryz.prog w = .ok v w := ⟨_, rfl, fun v w => rfl⟩
set_option maxHeartbeats 4000000 in
theorem copyCheck_sp (b : Nat) (pv : Option Addr) (v : Value) (w : World) (hpv : pv = none ∨ pv = some (⟨b, 0, none⟩ : Addr)) (hE : Eff w [(b, .cells ⟨[.pointer pv, v]⟩ 84 (0, 0))] w [(b, .cells ⟨[.pointer pv, v]⟩ 84 (0, 0))]) :
    Sp Tryz.prog 103 [.pointer (some ⟨b, 0, none⟩)] w [(b, .cells ⟨[.pointer pv, v]⟩ 84 (0, 0))] (fun _ : Unit => .tuple #[]) (fun _ => [[(b, .cells ⟨[.pointer (some ⟨b, 0, none⟩), v]⟩ 84 (0, 0))]]) (fun _ => True) := by
  have u176 := Tryz.underlying176
  obtain ⟨e, he, hr⟩ := noEscape_find
  refine enter (s := Tryz.sx) [[(b, .cells ⟨[.pointer pv, v]⟩ 84 (0, 0))]] Tryz.func103 rfl rfl rfl (by simpa using hE) ?_
  rcases hpv with rfl | rfl
  · repeat' (first | refine g_pv rfl rfl ?_ | refine g_ld 0 rfl rfl rfl rfl rfl rfl ?_ | refine gc_seq ?_ | refine gc_region ?_)
    refine g_p (p_eqPN rfl rfl rfl rfl) rfl ?_
    repeat' (first | refine g_pv rfl rfl ?_ | refine g_nil ?_ | refine gq_then ?_ | refine gc_region ?_ | refine gc_cond_t rfl ?_)
    refine g_toU 0 rfl rfl rfl rfl rfl u176 rfl rfl ?_
    refine g_p (p_extF rfl Tryz.func135 (by kernel_rfl) (by kernel_rfl) (by kernel_rfl) he rfl (fun w => hr _ w)) rfl ?_
    refine g_fromU 0 rfl rfl u176 rfl rfl (by kernel_rfl) rfl ?_
    repeat' (first | refine g_pv rfl rfl ?_ | refine g_nil ?_ | refine g_st 0 rfl rfl rfl rfl rfl rfl rfl ?_)
    exact gq_ret0 (.inl rfl) rfl rfl (fun w' H => ⟨(), trivial, rfl, H⟩)
  · repeat' (first | refine g_pv rfl rfl ?_ | refine g_ld 0 rfl rfl rfl rfl rfl rfl ?_ | refine gc_seq ?_ | refine gc_region ?_)
    refine g_p (p_eqPN rfl rfl rfl rfl) rfl ?_
    repeat' (first | refine g_pv rfl rfl ?_ | refine g_ld 0 rfl rfl rfl rfl rfl rfl ?_ | refine g_nil ?_ | refine gq_then ?_ | refine gc_seq ?_ | refine gc_region ?_ | refine gc_cond_f rfl ?_)
    refine g_p (p_nePS rfl rfl rfl rfl) rfl ?_
    repeat' (first | refine g_nil ?_ | refine gq_then ?_ | refine gc_cond_f rfl ?_ | refine gc_skip ?_)
    exact gq_ret0 (.inl rfl) rfl rfl (fun w' H => ⟨(), trivial, rfl, H⟩)
set_option maxHeartbeats 4000000 in
theorem writeString_sp (b : Nat) (l : List UInt8) (s : ByteArray) (R0 : RL) (w : World) (hB : BW b l R0) (hE : Eff w R0.flatten w R0.flatten) (hs0 : 0 < s.size) (hlen : l.length + s.size ≤ 1099511627776) :
    Sp Tryz.prog 56 [.pointer (some ⟨b, 0, none⟩), .string s] w R0.flatten (fun _ : RL => .tuple #[.int .i64 s.size, .nilIface]) (fun R => R) (fun R => BW b (l ++ bytesL s) R) := by
  obtain ⟨pv, v, A, hpv, rfl, hA⟩ := hB
  refine enter (s := Tryz.sx) [[(b, .cells ⟨[.pointer pv, v]⟩ 84 (0, 0))], A] Tryz.func56 rfl rfl rfl hE ?_
  repeat' (first | refine g_pv rfl rfl ?_ | refine g_nil ?_ | refine gq_then ?_ | refine gc_seq ?_ | refine gc_region ?_)
  refine g_call1 (A := [[(b, .cells ⟨[.pointer pv, v]⟩ 84 (0, 0))]]) (F := [A]) rfl rfl (Cl.of Tryz.func103 rfl rfl) rfl rfl (fun w' hE => copyCheck_sp b pv v w' hpv (by simpa using hp_own (A := [[(b, .cells ⟨[.pointer pv, v]⟩ 84 (0, 0))]]) (F := [A]) hE)) rfl (fun _ _ => ?_)
  refine g_heap (R' := [[(b, .cells ⟨[.pointer (some ⟨b, 0, none⟩), v]⟩ 84 (0, 0))], A]) (fun w H => H) ?_
  repeat' (first | refine g_pv rfl rfl ?_ | refine g_ld 0 rfl rfl rfl rfl rfl rfl ?_ | refine g_nil ?_ | refine gq_then ?_ | refine gc_seq ?_ | refine gc_region ?_)
  refine g_appS 1 rfl rfl rfl rfl rfl rfl rfl rfl rfl hA hs0 (by unfold maxLen; omega) (by omega) rfl ?_
  intro v' A' hA'
  obtain ⟨ad', c', rfl⟩ := hA'.shape
  refine g_heap (R' := [[(b, .cells ⟨[.pointer (some ⟨b, 0, none⟩), v]⟩ 84 (0, 0))], A']) (fun w H => H) ?_
  repeat' (first | refine g_pv rfl rfl ?_ | refine g_nil ?_ | refine gq_then ?_ | refine gc_seq ?_ | refine gc_region ?_ | refine gc_ret ?_ | refine g_st 0 rfl rfl rfl rfl rfl rfl rfl ?_)
  refine gq_ret2 (.inr rfl) rfl rfl rfl rfl (fun w' H => ⟨_, ⟨some ⟨b, 0, none⟩, _, A', .inr rfl, rfl, ?_⟩, rfl, H⟩)
  have e : (l ++ bytesL s).length = l.length + s.size := by unfold bytesL; rw [List.length_append, Array.length_toList]; rfl
  rw [e, bcells_append]
  exact hA'
theorem blen_sp (b : Nat) (l : List UInt8) (R0 : RL) (w : World) (hB : BW b l R0) (hE : Eff w R0.flatten w R0.flatten) :
    Sp Tryz.prog 39 [.pointer (some ⟨b, 0, none⟩)] w R0.flatten (fun _ : Unit => .int .i64 l.length) (fun _ => R0) (fun _ => True) := by
  obtain ⟨pv, v, A, hpv, rfl, hA⟩ := hB
  obtain ⟨ad, c, rfl⟩ := hA.shape
  refine enter (s := Tryz.sx) [[(b, .cells ⟨[.pointer pv, .slice ad l.length c]⟩ 84 (0, 0))], A] Tryz.func39 rfl rfl rfl hE ?_
  repeat' (first | refine g_pv rfl rfl ?_ | refine g_ld 0 rfl rfl rfl rfl rfl rfl ?_ | refine g_nil ?_ | refine gq_then ?_ | refine gc_seq ?_ | refine gc_region ?_ | refine gc_ret ?_)
  exact gq_ret1 (.inr rfl) rfl rfl rfl (fun w' H => ⟨(), trivial, rfl, H⟩)
set_option maxHeartbeats 4000000 in
theorem bstring_sp (b : Nat) (l : List UInt8) (R0 : RL) (w : World) (hB : BW b l R0) (hE : Eff w R0.flatten w R0.flatten) (h0 : l ≠ []) (hl : l.length ≤ 1099511627776) :
    Sp Tryz.prog 40 [.pointer (some ⟨b, 0, none⟩)] w R0.flatten (fun _ : Unit => .string ⟨l.toArray⟩) (fun _ => []) (fun _ => True) := by
  obtain ⟨pv, v, A, hpv, rfl, hA⟩ := hB
  obtain ⟨hxl, h⟩ := hA
  have hpos : 0 < l.length := List.length_pos_iff.2 h0
  rcases h with ⟨rfl, h, rfl⟩ | ⟨g, cap, rest, fz, rfl, rfl, h1, h2, h3, h4⟩
  · omega
  refine enter (s := Tryz.sx) [[(b, .cells ⟨[.pointer pv, .slice (some ⟨g, 0, none⟩) l.length cap]⟩ 84 (0, 0))], [(g, .cells ⟨bcells l ++ rest⟩ 5 fz)]] Tryz.func40 rfl rfl rfl hE ?_
  refine gc_seq ?_
  repeat' (first | refine g_pv rfl rfl ?_ | refine g_nil ?_ | refine gq_then ?_ | refine gc_region ?_)
  refine gc_seq ?_
  refine gc_draw [[(b, .cells ⟨[.pointer pv, .slice (some ⟨g, 0, none⟩) l.length cap]⟩ 84 (0, 0))]] [[(g, .cells ⟨bcells l ++ rest⟩ 5 fz)]] rfl (List.Perm.of_eq rfl) ?_
  (refine aP 0 rfl rfl ?_); (refine aP 1 rfl rfl ?_); (refine aP 2 rfl rfl ?_); (refine aL 3 0 rfl wanted_none rfl rfl rfl rfl rfl ?_)
  refine aQ 4 rfl (p_sd rfl (by omega)) ?_
  (refine aP 5 rfl rfl ?_); (refine aP 6 rfl rfl ?_); (refine aP 7 rfl rfl ?_); (refine aL 8 0 rfl wanted_none rfl rfl rfl rfl rfl ?_); (refine aP 9 rfl rfl ?_)
  refine aO 10 rfl (fun K hK => ?_)
  refine g_ustr 1 rfl rfl rfl rfl (by kernel_rfl) h0 (by rw [List.length_append, bcells_length]; omega) (by omega) (fun j x hx => by rw [List.getElem?_append_left (by rw [bcells_length]; exact (List.getElem?_eq_some_iff.1 hx).1)]; exact bcells_at hx) rfl ?_
  refine g_nil ?_
  refine hK _ _ ⟨[[]], List.Perm.of_eq rfl⟩ ?_
  (refine aP 11 rfl rfl ?_)
  refine ga_nil (by kernel_rfl) ?_
  repeat' (first | refine gq_then ?_ | refine gc_ret ?_)
  exact gq_ret1 (.inr rfl) rfl rfl rfl (fun w' H => ⟨(), trivial, rfl, hp_nil H⟩)
end Go.Proofs.YtpohhfggmaihpaaGreatDoor

/- A line of a writer; numbers. -/
namespace Go.Proofs.YtpohhfggmaihpaaGreatDoor
open Go.Wk
set_option linter.unusedVariables false
set_option linter.unusedSimpArgs false
attribute [local irreducible] G GC GQ GA GS Exit.then Exit.inBlock

theorem join_len : ∀ (W : List (List UInt8)), W.length ≤ (Lib.join W [32]).length + 1
  | [] => by simp
  | x :: r => by
    rw [Lib.join_cons]
    unfold Lib.joinTail
    induction r with
    | nil => simp
    | cons y r ih => simp at ih ⊢; omega
def strC (s : ByteArray) : List Value := [.string s]
theorem join_sp (ad : Option Addr) (c : Nat) (ws : List ByteArray) (w : World) (hw0 : Rd (hw w) strC 1 ad ws) (h0 : ws ≠ []) (hc : ws.length ≤ c) (hn : ws.length ≤ 1099511627776) (hlen : (Lib.join (ws.map bytesL) [32]).length ≤ 1099511627776) :
    Sp Tryz.prog 57 [.slice ad ws.length c, .string ⟨#[32]⟩] w [] (fun _ : Unit => .string ⟨(Lib.join (ws.map bytesL) [32]).toArray⟩) (fun _ => []) (fun _ => True) := by
  have hpos : 0 < ws.length := List.length_pos_iff.2 h0
  obtain ⟨b, o, rfl, hb⟩ := hw0 0 _ (List.getElem?_eq_getElem hpos)
  have hbk : b < w.heap.size := by
    have := hb 0 _ rfl
    unfold cellAt hw at this
    cases hq : w.heap[b]? with
    | none => rw [hq] at this; cases this
    | some x => exact (Array.getElem?_eq_some_iff.1 hq).1
  refine Calls.mono (Any.strings_Join Tryz.lays156 Tryz.Builder_Extra_156 b o c ws ⟨#[32]⟩ w (fun j x hx => ?_) hbk (by omega) hc (Nat.le_trans hlen (by omega))) ?_
  · obtain ⟨b', o', he, hj⟩ := hw0 j x hx
    cases he
    have := hj 0 _ rfl
    rw [cellAt_hw] at this
    simpa using this
  · rintro e w' ⟨he, hB⟩
    exact ⟨(), trivial, he, eff_of_below hB⟩
set_option maxHeartbeats 4000000 in
theorem line_sp (b : Nat) (l : List UInt8) (R0 : RL) (ad : Option Addr) (c : Nat) (ws : List ByteArray) (w : World) (hB : BW b l R0) (hE : Eff w R0.flatten w R0.flatten) (hw0 : Rd (exc w R0.flatten) strC 1 ad ws) (h0 : ws ≠ []) (hc : ws.length ≤ c) (hn : ws.length ≤ 1099511627776)
    (hlen : l.length + ((Lib.join (ws.map bytesL) [32]).length + 1) ≤ 1099511627776) :
    Sp Tryz.prog 35 [.pointer (some ⟨b, 0, none⟩), .slice ad ws.length c] w R0.flatten (fun _ : RL => .tuple #[]) (fun R => R) (fun R => BW b (l ++ (Lib.join (ws.map bytesL) [32] ++ [10])) R) := by
  refine enter (s := Tryz.sx) R0 Tryz.func35 rfl rfl rfl hE ?_
  refine gc_draw [] R0 rfl (by simp) ?_
  (refine aP 0 rfl rfl ?_); (refine aP 1 rfl rfl ?_); (refine aP 2 rfl rfl ?_); (refine aP 3 rfl rfl ?_)
  refine aO 4 rfl (fun K hK => ?_)
  refine g_call rfl (Cl.of Tryz.func57 rfl rfl) rfl rfl (fun w' hE' => join_sp ad c ws w' (hw0.le (fun b o h => old_le hE' b o (old_leA _ w _ b o h))) h0 hc hn (by omega)) rfl (fun _ _ => ?_)
  refine g_nil ?_
  refine hK _ _ ⟨R0, by simp⟩ ?_
  have hs : ((⟨(Lib.join (ws.map bytesL) [32]).toArray⟩ : ByteArray) ++ ⟨#[10]⟩).size = (Lib.join (ws.map bytesL) [32]).length + 1 := by simp [ByteArray.size]
  have hb : bytesL ((⟨(Lib.join (ws.map bytesL) [32]).toArray⟩ : ByteArray) ++ ⟨#[10]⟩) = Lib.join (ws.map bytesL) [32] ++ [10] := by simp [bytesL]
  refine aQ 5 rfl (p_addT rfl rfl (by rw [← ByteArray.size_append, hs]; omega)) ?_
  generalize (⟨(Lib.join (ws.map bytesL) [32]).toArray⟩ : ByteArray) ++ ⟨#[10]⟩ = t at hs hb ⊢
  refine aO 6 rfl (fun K hK => ?_)
  refine g_call1 (A := R0) (F := []) (by simp) rfl (Cl.of Tryz.func56 rfl rfl) rfl rfl (fun w' hE' => writeString_sp b l t R0 w' hB (hp_own (F := []) (by simpa using hE')) (by omega) (by omega)) rfl ?_
  intro R1 hR1
  refine g_nil ?_
  refine hK _ _ ⟨R1, by simp⟩ ?_
  refine ga_nil (by kernel_rfl) ?_
  repeat' (fail)
  refine gq_ret0 (.inl rfl) rfl rfl (fun w' H => ⟨R1, by rw [← hb]; exact hR1, rfl, by simpa [Hp] using H⟩)
end Go.Proofs.YtpohhfggmaihpaaGreatDoor

/- Numbers' and operands' texts, tac's and the document's. -/
namespace Go.Proofs.YtpohhfggmaihpaaGreatDoor
open Go.Wk
set_option linter.unusedVariables false
set_option linter.unusedSimpArgs false
attribute [local irreducible] G GC GQ GA GS Exit.then Exit.inBlock

/-- What the row tells of the powers of ten, whole. -/
def Pow20 (H : Nat → Option Obj) : Prop := ∃ e fz, H 1 = some (.cells ⟨pow10⟩ e fz)
theorem Pow20.le {H1 H2 : Nat → Option Obj} (h : Hle H1 H2) (p : Pow20 H1) : Pow20 H2 := by
  obtain ⟨e, fz, hp⟩ := p; exact ⟨e, fz, h _ _ hp⟩
theorem Pow20.ten {H : Nat → Option Obj} (p : Pow20 H) : Pow10 H := by
  obtain ⟨e, fz, hp⟩ := p; exact ⟨[], e, fz, by rw [List.append_nil]; exact hp⟩
theorem gPow20 : Tryz.prog.globalNamed "internal/strconv.uint64pow10" = some 1 := by kernel_rfl
theorem pow10_tab : (Lib.pow10Tab.map fun z => Value.int .u64 z) = pow10 := by kernel_rfl
theorem Pow20.tab {w : World} (p : Pow20 (hw w)) : Lib.TabIs Tryz.prog w "internal/strconv.uint64pow10" .u64 Lib.pow10Tab := by
  obtain ⟨e, fz, hp⟩ := p
  have hp : w.heap[1]? = some (.cells ⟨pow10⟩ e fz) := hp
  unfold Lib.TabIs World.var?
  rw [gPow20, pow10_tab]
  simp [hp]
theorem bytesL_append (a b : ByteArray) : bytesL (a ++ b) = bytesL a ++ bytesL b := by simp [bytesL]
theorem bytesL_mk (l : List UInt8) : bytesL ⟨l.toArray⟩ = l := rfl
theorem itoa_sp (n : Int) (w : World) (hn : in64 n) (hp : Pow20 (hw w)) : Sp Tryz.prog 58 [.int .i64 n] w [] (fun s : ByteArray => .string s) (fun _ => []) (fun s => bytesL s = Lib.itoa n) := by
  refine Calls.mono (Any.strconv_Itoa Tryz.laysM171 n (by unfold in64 at hn; omega) (by unfold in64 at hn; omega) w hp.tab) ?_
  rintro e w' ⟨he, k, os, rfl⟩
  exact ⟨_, bytesL_mk _, he, eff_of_below (Lib.below_grow _ w (Nat.le_refl _) k os)⟩
theorem itoa_len {n : Int} (h : in64 n) : (Lib.itoa n).length ≤ 21 := Lib.itoa_length_le n (by unfold in64 at h; omega) (by unfold in64 at h; omega)
theorem dec_sp (n : Int) (w : World) (hn : in64 n) (hp : Pow20 (hw w)) : Sp Tryz.prog 36 [.int .i64 n] w [] (fun s : ByteArray => .string s) (fun _ => []) (fun s => bytesL s = Lib.itoa n) := by
  refine enter (s := Tryz.sx) [] Tryz.func36 rfl rfl rfl (Eff.refl w) ?_
  repeat' (first | refine g_pv rfl rfl ?_ | refine g_nil ?_ | refine gq_then ?_ | refine gc_seq ?_ | refine gc_region ?_)
  refine g_call rfl (Cl.of Tryz.func58 rfl rfl) rfl rfl (fun w' hE => itoa_sp n w' hn (hp.le (fun b o h => old_le hE b o (old_le0 _ w b o h)))) rfl (fun s hs => ?_)
  repeat' (first | refine g_pv rfl rfl ?_ | refine g_nil ?_ | refine gq_then ?_ | refine gc_ret ?_)
  exact gq_ret1 (.inr rfl) rfl rfl rfl (fun w' H => ⟨s, hs, rfl, hp_nil H⟩)
theorem cons_add {c : UInt8} {s : ByteArray} {l : List UInt8} (h : bytesL s = l) : bytesL (⟨#[c]⟩ ++ s) = c :: l := by rw [bytesL_append, h]; rfl
theorem tmp_sp (n : Int) (w : World) (hn : in64 n) (hp : Pow20 (hw w)) : Sp Tryz.prog 60 [.int .i64 n] w [] (fun s : ByteArray => .string s) (fun _ => []) (fun s => bytesL s = tmpT n) := by
  have hl := itoa_len hn
  refine enter (s := Tryz.sx) [] Tryz.func60 rfl rfl rfl (Eff.refl w) ?_
  repeat' (first | refine g_pv rfl rfl ?_ | refine g_nil ?_ | refine gq_then ?_ | refine gc_seq ?_ | refine gc_region ?_)
  refine g_call rfl (Cl.of Tryz.func36 rfl rfl) rfl rfl (fun w' hE => dec_sp n w' hn (hp.le (fun b o h => old_le hE b o (old_le0 _ w b o h)))) rfl (fun s hs => ?_)
  refine g_p (p_addT rfl rfl (by rw [size_bytesL s, hs]; show 1 + _ ≤ _; omega)) rfl ?_
  repeat' (first | refine g_pv rfl rfl ?_ | refine g_nil ?_ | refine gq_then ?_ | refine gc_ret ?_)
  exact gq_ret1 (.inr rfl) rfl rfl rfl (fun w' H => ⟨_, cons_add hs, rfl, hp_nil H⟩)
theorem u32_64 {n : Int} (h : 0 ≤ n ∧ n ≤ 4294967295) : IntKind.i64.wrap n = n := by rw [IntKind.wrap_i64]; omega
theorem ok_in {a : Arg} (h : a.ok) : in64 a.n := by have := h.1; have := h.2; unfold in64; omega
theorem argt_sp (a : Arg) (w : World) (ha : a.ok) (hp : Pow20 (hw w)) : Sp Tryz.prog 59 [.agg a.cells.toArray] w [] (fun s : ByteArray => .string s) (fun _ => []) (fun s => bytesL s = argT a) := by
  have hn := ok_in ha
  have hl := itoa_len hn
  refine enter (s := Tryz.sx) [] Tryz.func59 rfl rfl rfl (Eff.refl w) ?_
  repeat' (first | refine g_pv rfl rfl ?_ | refine g_ld 0 rfl rfl rfl rfl rfl rfl ?_ | refine g_nil ?_ | refine gq_then ?_ | refine gc_seq ?_ | refine gc_region ?_ | refine g_box rfl rfl (fun _ => ?_))
  refine gc_condC rfl (fun hc => ?_) (fun hc => ?_)
  · have hk : a.k = 1 := beq_iff_eq.1 hc
    repeat' (first | refine g_pv rfl rfl ?_ | refine g_ld 0 rfl rfl rfl rfl rfl rfl ?_ | refine gc_seq ?_ | refine gc_region ?_)
    refine g_eq 8 (u' := .int .i64 a.n) rfl (by rw [u32_64 ha]) ?_
    refine g_call rfl (Cl.of Tryz.func36 rfl rfl) rfl rfl (fun w' hE => dec_sp a.n w' hn (hp.le (fun b o h => old_le hE b o (old_le0 _ w b o h)))) rfl (fun s hs => ?_)
    refine g_p (p_addT rfl rfl (by rw [size_bytesL s, hs]; show 1 + _ ≤ _; omega)) rfl ?_
    repeat' (first | refine g_pv rfl rfl ?_ | refine g_nil ?_ | refine gq_then ?_ | refine gc_ret ?_ | refine gq_then_ret ?_)
    refine gq_ret1 (.inr rfl) rfl rfl rfl (fun w' H => ⟨_, ?_, rfl, hp_nil H⟩)
    unfold argT; rw [if_pos hk]; exact cons_add hs
  · have hk : ¬ a.k = 1 := beq_eq_false_iff_ne.1 hc
    repeat' (first | refine g_pv rfl rfl ?_ | refine g_ld 0 rfl rfl rfl rfl rfl rfl ?_ | refine gq_then ?_ | refine gc_seq ?_ | refine gc_region ?_ | refine gc_skip ?_)
    refine g_eq 13 (u' := .int .i64 a.n) rfl (by rw [u32_64 ha]) ?_
    refine g_call rfl (Cl.of Tryz.func36 rfl rfl) rfl rfl (fun w' hE => dec_sp a.n w' hn (hp.le (fun b o h => old_le hE b o (old_le0 _ w b o h)))) rfl (fun s hs => ?_)
    refine g_p (p_addT rfl rfl (by rw [size_bytesL s, hs]; show 1 + _ ≤ _; omega)) rfl ?_
    repeat' (first | refine g_pv rfl rfl ?_ | refine g_nil ?_ | refine gq_then ?_ | refine gc_ret ?_)
    refine gq_ret1 (.inr rfl) rfl rfl rfl (fun w' H => ⟨_, ?_, rfl, hp_nil H⟩)
    unfold argT; rw [if_neg hk]; exact cons_add hs

/-! ### The document's -/
def dd (u : Nat) : List UInt8 := if u = 0 then [] else Lib.decDigits u
theorem dd_step (u : Nat) : dd (u / 10) ++ [UInt8.ofNat (48 + u % 10)] = Lib.decDigits u := by
  unfold dd
  rw [Lib.decDigits.eq_def u]
  split
  · rename_i h
    rw [dif_pos (by omega)]
    rw [show u % 10 = u from by omega]; rfl
  · rw [dif_neg (by omega)]
theorem dd_pos {u : Nat} (h : 0 < u) : dd u = Lib.decDigits u := by unfold dd; rw [if_neg (by omega)]
/-- What the loop keeps. -/
def DecInv (u0 u : Nat) (s : ByteArray) : Prop := u ≤ u0 ∧ ((bytesL s = [] ∧ u = u0) ∨ (bytesL s ≠ [] ∧ Lib.decDigits u0 = dd u ++ bytesL s))
theorem DecInv.step {u0 u : Nat} {s t : ByteArray} (h : DecInv u0 u s) (hc : 0 < u ∨ bytesL s = []) (ht : bytesL t = UInt8.ofNat (48 + u % 10) :: bytesL s) : DecInv u0 (u / 10) t := by
  obtain ⟨hu, h⟩ := h
  refine ⟨Nat.le_trans (Nat.div_le_self _ _) hu, .inr ⟨by rw [ht]; simp, ?_⟩⟩
  rw [ht]
  rcases h with ⟨h1, h2⟩ | ⟨h1, h2⟩
  · rw [h1, ← h2]; exact (dd_step u).symm
  · rcases hc with hc | hc
    · rw [h2, dd_pos hc, ← dd_step u, List.append_assoc]; rfl
    · exact absurd hc h1
theorem DecInv.len {u0 u : Nat} {s : ByteArray} (h : DecInv u0 u s) : (bytesL s).length ≤ (Lib.decDigits u0).length := by
  obtain ⟨hu, h⟩ := h
  rcases h with ⟨h3, _⟩ | ⟨_, h3⟩
  · rw [h3]; exact Nat.zero_le _
  · rw [h3, List.length_append]; omega
end Go.Proofs.YtpohhfggmaihpaaGreatDoor

/- The document's Dec, dec, d, arg1. -/
namespace Go.Proofs.YtpohhfggmaihpaaGreatDoor
open Go.Wk
set_option linter.unusedVariables false
set_option linter.unusedSimpArgs false
attribute [local irreducible] G GC GQ GA GS Exit.then Exit.inBlock

theorem empT' (s : ByteArray) : (s.toList == (⟨#[]⟩ : ByteArray).toList) = decide (bytesL s = []) := by
  rw [empT]; cases h : bytesL s <;> simp
end Go.Proofs.YtpohhfggmaihpaaGreatDoor
