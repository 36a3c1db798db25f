/-
  Memory: append, copy.
  Memory: copies, bytes and strings, pointers seen as others.
  Maps whose keys are numbers, strings, bools.
  One operation, whatever it is.
-/
import Derived.Test.YtpohhfggmaihpaaGreatDoorZ5
import Derived.Laws.IdiomStrings
import Derived.Lib.Builder
import Derived.Lib.UnsafeStr
import Derived.Lib.Bytealg

/- Memory: append, copy. -/
namespace Go.Ev
open Go.Wk
set_option linter.unusedVariables false
set_option linter.unusedSimpArgs false

/-! ### The model's append, in general -/
section
variable {P : Program} {t u ty e : TypeId} {te : Ti} {x : Value} {m n cap : Nat} {base : Option Addr} {news : List Value} {w : World}
theorem run_app_room (ht : P.underlying t = some (.slice e)) (hu : ∃ d, P.underlying u = some d ∧ ∀ k, d ≠ .int k) (hte : tiOf P e = some te) (hlen : (Builtin.lenOf x).run P w = .ok m w) (hf : (Builtin.firstCells te.sz m x).run P w = .ok ⟨news⟩ w) (hroom : n + m ≤ cap)
    {b o : Nat} {w' : World} (hb : base = some ⟨b, o, none⟩) (hst : (storeCells ⟨b, o + n * te.sz, none⟩ news 0).run P w = .ok () w') :
    (Builtin.append_ #[t, u] ty #[.slice base n cap, x]).run P w = .ok (.slice base (n + m) cap) w' := by
  obtain ⟨d, hd, hne⟩ := hu
  subst hb
  simp [Builtin.append_, run_underlying ht, run_underlying hd, Wk.run_sizeOf hte, hlen, hroom, hf, addr_add, hst]
theorem run_app_none (ht : P.underlying t = some (.slice e)) (hu : ∃ d, P.underlying u = some d ∧ ∀ k, d ≠ .int k) (hte : tiOf P e = some te) (hlen : (Builtin.lenOf x).run P w = .ok m w) (hf : (Builtin.firstCells te.sz m x).run P w = .ok ⟨news⟩ w) (hroom : n + m ≤ cap) :
    (Builtin.append_ #[t, u] ty #[.slice none n cap, x]).run P w = .ok (.slice none (n + m) cap) w := by
  obtain ⟨d, hd, hne⟩ := hu
  simp [Builtin.append_, run_underlying ht, run_underlying hd, Wk.run_sizeOf hte, hlen, hroom, hf]
theorem run_app_grow (ht : P.underlying t = some (.slice e)) (hu : ∃ d, P.underlying u = some d ∧ ∀ k, d ≠ .int k) (hte : tiOf P e = some te) (hlen : (Builtin.lenOf x).run P w = .ok m w) (hf : (Builtin.firstCells te.sz m x).run P w.drew = .ok ⟨news⟩ w.drew) (hroom : ¬ n + m ≤ cap)
    {olds : List Value} (ho : (Builtin.firstCells te.sz n (.slice base n cap)).run P w.drew = .ok ⟨olds⟩ w.drew) (hbytes : (n + m) * te.by' ≤ 140737488355328) (h63 : n + m ≤ 1152921504606846976) :
    (Builtin.append_ #[t, u] ty #[.slice base n cap, x]).run P w = .ok (.slice (some ⟨w.heap.size, 0, none⟩) (n + m) (grownCap w (n + m) cap e)) (w.drew.alloc (.cells ⟨(olds ++ news) ++ (Builtin.zeroCells te.z.cells (grownCap w (n + m) cap e - (n + m))).toList⟩ e)) := by
  obtain ⟨d, hd, hne⟩ := hu
  obtain ⟨dd, i, hud, hi, hk, hz, hs, hby⟩ := tiOf_spec hte
  have hfit := growslice_fits (need := n + m) (old := cap) (bytes := i.bytes) (by omega) (by rw [hby]; exact hbytes)
  have h48' : ¬ (281474976710656 < Builtin.nextslicecap (n + m) cap * i.bytes) := by omega
  have h63' : ¬ (9223372036854775807 < ((n : Int) + (m : Int))) := by omega
  rw [← hs] at hf ho
  have e1 : (⟨(olds ++ news) ++ (Builtin.zeroCells te.z.cells (grownCap w (n + m) cap e - (n + m))).toList⟩ : Array Value) = (⟨olds⟩ : Array Value) ++ ⟨news⟩ ++ Builtin.zeroCells te.z.cells (grownCap w (n + m) cap e - (n + m)) := by apply Array.ext'; simp
  rw [e1]
  simp [Builtin.append_, run_underlying ht, run_underlying hd, sizeOf, typeInfo, zeroValue, hi, hz, hlen, hroom, h63', h48', Question.forced, hf, ho, newRow, grownCap]
  congr 2
  apply Array.ext'
  simp
end

/-! ### What is appended -/
def newsE (C : Ct) (s : St) (sz : Nat) : Value → Option (Nat × List Value)
  | .slice none m _ => bif Nat.beq m 0 then some (0, []) else none
  | .slice (some ⟨b, o, none⟩) m _ => (match readC C s b o (m * sz) with
    | some cs => some (m, cs)
    | none => none)
  | .string q => bif Nat.beq sz 1 then some (q.data.toList.length, q.data.toList.map fun b => .int .u8 b.toNat) else none
  | _ => none
section
variable {C : Ct} {w0 : World} {D : Nat → Prop} {ρ : Env} {s s' : St} {w : World} {N : Nat} {fm : Fm} {a : Act} {dst : Option Tmp} {ty : TypeId} {p : String} {af : Array Edge} {g : Option (Nat × Bool)}
theorem concs_bytes : ∀ (l : List UInt8), concs ρ (l.map fun b => Value.int .u8 b.toNat) = some (l.map fun b => .int .u8 b.toNat)
  | [] => concs_nil ρ
  | b :: r => concs_cons.2 ⟨_, _, conc_int _ _ _, concs_bytes r, rfl⟩
theorem newsE_spec (H : Sr C w0 D ρ s w) {sz m : Nat} {x x' : Value} {cs : List Value} (hx : conc ρ x = some x') (h : newsE C s sz x = some (m, cs)) :
    ∃ cs', concs ρ cs = some cs' ∧ cs.length = m * sz ∧ (∀ w', (Builtin.lenOf x').run C.P w' = .ok m w') ∧ (Builtin.firstCells sz m x').run C.P w = .ok ⟨cs'⟩ w ∧ (Builtin.firstCells sz m x').run C.P w.drew = .ok ⟨cs'⟩ w.drew := by
  unfold newsE at h
  split at h
  · rename_i m' c
    cases hm : Nat.beq m' 0 with
    | false => rw [hm] at h; cases h
    | true =>
      rw [hm, cond_true] at h; cases h
      obtain rfl := Nat.eq_of_beq_eq_true hm
      simp only [conc, Option.some.injEq] at hx; subst hx
      exact ⟨[], concs_nil ρ, by simp, fun w' => rfl, by simp [Builtin.firstCells], by simp [Builtin.firstCells]⟩
  · rename_i b o m' c
    split at h
    · rename_i cs0 hr
      cases h
      obtain ⟨a', c', h1, h2, h3, rfl⟩ := conc_slice.1 hx
      simp only [cA, Option.map_eq_some_iff] at h1
      obtain ⟨b', hb', rfl⟩ := h1
      obtain ⟨cs', g1, g2, g3, g4⟩ := readC_spec H hb' hr
      refine ⟨cs', g1, g2, fun w' => rfl, ?_, ?_⟩
      · exact run_firstCells_some (P := C.P) w sz m ⟨b', o, none⟩ m c' cs' g3 (fun j v hj => by rw [addr_add]; exact g4 j v hj)
      · exact run_firstCells_some (P := C.P) w.drew sz m ⟨b', o, none⟩ m c' cs' g3 (fun j v hj => by rw [addr_add]; exact g4 j v hj)
    · cases h
  · rename_i q
    cases hs : Nat.beq sz 1 with
    | false => rw [hs] at h; cases h
    | true =>
      rw [hs, cond_true] at h; cases h
      obtain rfl := Nat.eq_of_beq_eq_true hs
      simp only [conc, Option.some.injEq] at hx; subst hx
      have hsz : q.size = q.data.toList.length := by simp
      have h1 : ∀ w', (Builtin.firstCells 1 q.data.toList.length (.string q)).run C.P w' = .ok ⟨q.data.toList.map fun b => .int .u8 b.toNat⟩ w' := fun w' => by
        rw [← hsz]; exact Go.Lib.run_firstCells_string w' 1 q
      exact ⟨_, concs_bytes _, by simp, fun w' => by rw [← hsz]; rfl, h1 w, h1 w.drew⟩
  · cases h

/-- A row that may grow. -/
def growE (C : Ct) (s : St) (e : TypeId) (n : Nat) (cs : List Value) : Option (Value × St) := bif Nat.ble BB e then none else (match s.new (.cells ⟨cs⟩ (e + BB) (0, 0)) with
  | some s' => some (.slice (some ⟨BB + s.n, 0, none⟩) n CC, s')
  | none => none)
theorem ccap_CC (ρ : Env) (n : Nat) : ccap ρ (BB + n) CC = (lcE ρ n).map Loc.cap := by
  unfold ccap
  have h1 : Nat.ble CC CC = true := by generalize CC = q; exact Nat.ble_eq_true_of_le (Nat.le_refl _)
  have h2 : ∀ x : Nat, x - (CC - CC) = x := fun x => by generalize CC = q; rw [Nat.sub_self]; rfl
  rw [h1, BB_ble, BB_sub]
  simp only [cond_true]
  have : (fun l : Loc => l.cap - (CC - CC)) = Loc.cap := funext fun l => h2 l.cap
  rw [this]

/-- The result of an append onto a grown row, newly allocated. -/
theorem growE_alloc (H : Sr C w0 D ρ s w) {e : TypeId} {te : Ti} {n cap : Nat} {cs cs' sp : List Value} {v : Value} (hte : C.tt.get e = some te) (hc : concs ρ cs = some cs') (hn : n ≤ cap) (hl : (cs' ++ sp).length = cap * te.sz) (h : growE C s e n cs = some (v, s')) :
    conc (ρ ++ [(s.n, ⟨w.heap.size, cap, sp⟩)]) v = some (.slice (some ⟨w.heap.size, 0, none⟩) n cap) ∧ Sr C w0 D (ρ ++ [(s.n, ⟨w.heap.size, cap, sp⟩)]) s' (w.alloc (.cells ⟨cs' ++ sp⟩ e)) := by
  unfold growE at h
  cases he : Nat.ble BB e with
  | true => rw [he] at h; cases h
  | false =>
    rw [he, cond_false] at h
    split at h
    · rename_i s1 hs
      cases h
      refine ⟨conc_sl ?_ ?_ hn, H.alloc (concO_grow (L := ⟨w.heap.size, cap, sp⟩) (concs_mono _ hc) hte hl) hs⟩
      · unfold cad
        rw [BB_ble, BB_sub, cond_true, lcE_new _ H.un]; rfl
      · rw [ccap_CC, lcE_new _ H.un]; rfl
    · cases h

def appE (C : Ct) (s : St) (t u : TypeId) : Value → Value → Option (Value × St)
  | .slice base n c, x => match C.tt.get t, C.tt.get u with
    | some ti, some ui => (match ti.k with
      | .slice e => bif (match ui.k with | .int _ => true | _ => false) then none else (match C.tt.get e with
        | some te => bif Nat.beq te.z.cells.size te.sz then (match newsE C s te.sz x with
          | some (m, news) => bif Nat.ble ((n + m) * te.by') 140737488355328 && Nat.ble (n + m) 4294967296 then (match base with
            | none => bif Nat.ble (n + m) c then some (.slice none (n + m) c, s) else bif Nat.beq n 0 then growE C s e m news else none
            | some ⟨b, o, none⟩ => bif Nat.ble CC c then
                (bif Nat.beq c CC && Nat.beq o 0 && Nat.ble BB b && news.all Value.oneCell' then (match s.h.get (b - BB) with
                  | some (.cells l e' (0, 0)) => bif Nat.beq e' (e + BB) then (match takeN l.toList 0 (n * te.sz), s.upd (b - BB) none with
                    | some xs, some s1 => growE C s1 e (n + m) (xs ++ news)
                    | _, _ => none) else none
                  | _ => none) else none)
              else bif Nat.ble (n + m) c then (match writeC s b (o + n * te.sz) news with
                | some s' => some (.slice (some ⟨b, o, none⟩) (n + m) c, s')
                | none => none)
              else (match readC C s b o (n * te.sz) with
                | some xs => growE C s e (n + m) (xs ++ news)
                | none => none)
            | _ => none) else none
          | none => none) else none
        | none => none)
      | _ => none)
    | _, _ => none
  | _, _ => none
theorem not_int {P : Program} {u : TypeId} {ui : Ti} (hu : tiOf P u = some ui) (hk : (match ui.k with | .int _ => true | _ => false) = false) : ∃ d, P.underlying u = some d ∧ ∀ k, d ≠ .int k := by
  obtain ⟨d, i, hd, _, hkk, _⟩ := tiOf_spec hu
  refine ⟨d, hd, fun k hdk => ?_⟩
  subst hdk
  rw [← hkk] at hk
  simp [tkOf] at hk
theorem zeroCells_len (z : Array Value) (n : Nat) : (Builtin.zeroCells z n).toList.length = n * z.size := by rw [Array.length_toList]; exact size_zeroCells z n
theorem vm_app {t u : TypeId} {x y : Operand} {v q r : Value} (h : Fr ρ N fm a) (H : Sr C w0 D ρ s w) (hx : evE fm.t x = some v) (hy : evE fm.t y = some q) (hb : appE C s t u v q = some (r, s')) :
    Vm C w0 D ρ w a ⟨dst, .call ⟨.builtin .append, #[x, y], #[t, u]⟩, ty, p, af, g⟩ r s' := by
  obtain ⟨v', hv, he⟩ := evE_spec h hx
  obtain ⟨q', hq, he'⟩ := evE_spec h hy
  have hop : ∀ {u' : Value} {w' : World}, (Builtin.append_ #[t, u] ty #[v', q']).run C.P w = .ok u' w' → (execOp a.eval ⟨dst, .call ⟨.builtin .append, #[x, y], #[t, u]⟩, ty, p, af, g⟩).run C.P w = .ok (.value u') w' := fun hr => by
    simp only [execOp]
    simp [resolve, invoke, builtin, he, he', hr]
  unfold appE at hb
  split at hb
  · rename_i base n c
    split at hb
    · rename_i ti ui ht hu
      have hti := C.okT _ _ ht
      obtain ⟨kk, z0, sz0, by0⟩ := ti
      cases kk with
      | slice e =>
        simp only at hb
        cases hk : (match ui.k with | .int _ => true | _ => false : Bool) with
        | true => rw [hk] at hb; cases hb
        | false =>
          rw [hk, cond_false] at hb
          have hui := not_int (C.okT _ _ hu) hk
          cases hte : C.tt.get e with
          | none => rw [hte] at hb; cases hb
          | some te =>
            rw [hte] at hb
            simp only at hb
            have htei := C.okT _ _ hte
            cases hz : Nat.beq te.z.cells.size te.sz with
            | false => rw [hz] at hb; cases hb
            | true =>
              rw [hz, cond_true] at hb
              have hz' := Nat.eq_of_beq_eq_true hz
              split at hb
              · rename_i m news hnews
                obtain ⟨news', hnc, hnl, hlen, hf1, hf2⟩ := newsE_spec H hq hnews
                have hnl' : news'.length = m * te.sz := by rw [concs_len hnc]; exact hnl
                cases hbd : (Nat.ble ((n + m) * te.by') 140737488355328 && Nat.ble (n + m) 4294967296) with
                | false => rw [hbd] at hb; cases hb
                | true =>
                  rw [hbd, cond_true] at hb
                  simp only [Bool.and_eq_true] at hbd
                  have hby := Nat.le_of_ble_eq_true hbd.1
                  have h32 := Nat.le_of_ble_eq_true hbd.2
                  have h63 : n + m ≤ 1152921504606846976 := by omega
                  -- a grown row
                  have grow : ∀ {S1 : St} (H1 : Sr C w0 D ρ S1 w) {cap : Nat} {base' : Option Addr} {olds olds' : List Value}, concs ρ olds = some olds' → olds'.length = n * te.sz → (Builtin.firstCells te.sz n (.slice base' n cap)).run C.P w.drew = .ok ⟨olds'⟩ w.drew → ¬ n + m ≤ cap →
                      growE C S1 e (n + m) (olds ++ news) = some (r, s') → v' = .slice base' n cap → Vm C w0 D ρ w a ⟨dst, .call ⟨.builtin .append, #[x, y], #[t, u]⟩, ty, p, af, g⟩ r s' := by
                    intro S1 H1 cap base' olds olds' ho hol hfo hnr hg hve
                    subst hve
                    have hr := run_app_grow (ty := ty) (tk_slice hti) hui htei (hlen w) hf2 hnr hfo hby h63
                    have hge := grownCap_ge w (n + m) cap e
                    obtain ⟨g1, g2⟩ := growE_alloc (w := w.drew) (cap := grownCap w (n + m) cap e) (sp := (Builtin.zeroCells te.z.cells (grownCap w (n + m) cap e - (n + m))).toList) H1.drew hte (concs_app ho hnc) hge
                      (by rw [List.length_append, List.length_append, zeroCells_len, hol, hnl', hz', ← Nat.add_mul, ← Nat.add_mul]; congr 1; omega) hg
                    exact ⟨_, _, _, hop hr, g1, g2⟩
                  split at hb
                  · -- onto nil
                    simp only [conc, Option.some.injEq] at hv; subst hv
                    cases hroom : Nat.ble (n + m) c with
                    | true =>
                      rw [hroom, cond_true] at hb; cases hb
                      have hr := run_app_none (ty := ty) (tk_slice hti) hui htei (hlen w) hf1 (Nat.le_of_ble_eq_true hroom)
                      exact ⟨[], _, _, hop hr, conc_sn _ _ _, by rw [List.append_nil]; exact H⟩
                    | false =>
                      rw [hroom, cond_false] at hb
                      cases hn0 : Nat.beq n 0 with
                      | false => rw [hn0] at hb; cases hb
                      | true =>
                        rw [hn0, cond_true] at hb
                        obtain rfl := Nat.eq_of_beq_eq_true hn0
                        have hnr : ¬ 0 + m ≤ c := fun hle => by rw [Nat.ble_eq_true_of_le hle] at hroom; cases hroom
                        refine grow H (olds := []) (olds' := []) (concs_nil ρ) (by simp) (by simp [Builtin.firstCells]) hnr ?_ rfl
                        rw [List.nil_append, Nat.zero_add]; exact hb
                  · rename_i b o
                    obtain ⟨a', c', h1, h2, h3, rfl⟩ := conc_slice.1 hv
                    simp only [cA, Option.map_eq_some_iff] at h1
                    obtain ⟨b', hb', rfl⟩ := h1
                    cases hcc : Nat.ble CC c with
                    | true =>
                      rw [hcc, cond_true] at hb
                      cases hq1 : (Nat.beq c CC && Nat.beq o 0 && Nat.ble BB b && news.all Value.oneCell') with
                      | false => rw [hq1] at hb; cases hb
                      | true =>
                        rw [hq1, cond_true] at hb
                        simp only [Bool.and_eq_true] at hq1
                        obtain ⟨⟨⟨hc1, ho0⟩, hbb⟩, hone⟩ := hq1
                        obtain rfl := Nat.eq_of_beq_eq_true ho0
                        obtain ⟨L, hL, rfl⟩ := cad_own hbb hb'
                        have hcap : c' = L.cap := by
                          have hc2 := Nat.eq_of_beq_eq_true hc1
                          subst hc2
                          have hbq : b = BB + (b - BB) := by
                            have := Nat.le_of_ble_eq_true hbb
                            revert this; generalize BB = q; omega
                          rw [hbq, ccap_CC, hL] at h2
                          exact (Option.some.inj h2).symm
                        subst hcap
                        generalize b - BB = k at hb hL
                        split at hb
                        · rename_i l e' hk
                          cases hee : Nat.beq e' (e + BB) with
                          | false => rw [hee] at hb; cases hb
                          | true =>
                            rw [hee, cond_true] at hb
                            have hee' := Nat.eq_of_beq_eq_true hee
                            split at hb
                            · rename_i xs s1 hxs hs1
                              obtain ⟨L2, o', g1, g2, g3⟩ := H.holds _ _ hk
                              rw [hL] at g1; cases g1
                              obtain ⟨l', e1, hl', rfl, halt⟩ := concO_cells g2
                              have hbe : Nat.ble BB e' = true := by rw [hee']; generalize BB = q; exact Nat.ble_eq_true_of_le (Nat.le_add_left _ _)
                              rcases halt with ⟨_, he1, te2, ht2, hln⟩ | ⟨hne, _⟩
                              · have he1' : e1 = e := by rw [he1, hee']; generalize BB = q; exact Nat.add_sub_cancel e q
                                rw [← he1, he1', hte] at ht2
                                cases ht2
                                subst he1'
                                obtain ⟨xs', hxc, hxl, hxl', hxg⟩ := takeN_spec hl' hxs
                                by_cases hroom : n + m ≤ L.cap
                                · -- in place
                                  have hxe : xs' = (l' ++ L.sp).take (n * te.sz) := by
                                    apply List.ext_getElem?
                                    intro j
                                    by_cases hj : j < n * te.sz
                                    · rw [List.getElem?_take, if_pos hj]
                                      have := hxg L.sp j xs'[j] (List.getElem?_eq_getElem (by omega))
                                      rw [Nat.zero_add] at this
                                      rw [this, List.getElem?_eq_getElem]
                                    · rw [List.getElem?_eq_none (by omega), List.getElem?_eq_none (by rw [List.length_take]; omega)]
                                  have hfit : n * te.sz + news'.length ≤ (l' ++ L.sp).length := by
                                    rw [hln, hnl', ← Nat.add_mul]; exact Nat.mul_le_mul_right _ hroom
                                  obtain ⟨w', hst, E⟩ := run_storeCells (P := C.P) (e := e1) news' (l' ++ L.sp) (0 + n * te.sz) 0 w (by simpa using g3) (by omega) (concs_one' hnc hone)
                                  have hr := run_app_room (ty := ty) (cap := L.cap) (tk_slice hti) hui htei (hlen w) hf1 hroom rfl hst
                                  have hput : putC (l' ++ L.sp) (0 + n * te.sz + 0) news' = (xs' ++ news') ++ (l' ++ L.sp).drop ((n + m) * te.sz) := by
                                    have e5 := putC_append news' ((l' ++ L.sp).take (n * te.sz)) ((l' ++ L.sp).drop (n * te.sz)) (by rw [List.length_drop]; omega)
                                    rw [List.take_append_drop, List.length_take, Nat.min_eq_left (by omega), List.drop_drop, hnl', ← Nat.add_mul] at e5
                                    rw [Nat.zero_add, Nat.add_zero, e5, hxe]
                                  rw [hput] at E
                                  unfold growE at hb
                                  cases hbe2 : Nat.ble BB e1 with
                                  | true => rw [hbe2] at hb; cases hb
                                  | false =>
                                    rw [hbe2, cond_false] at hb
                                    split at hb
                                    · rename_i s2 hs2
                                      cases hb
                                      have hlen2 : (xs' ++ news' ++ (l' ++ L.sp).drop ((n + m) * te.sz)).length = L.cap * te.sz := by
                                        have hle : (n + m) * te.sz ≤ (l' ++ L.sp).length := by rw [hln]; exact Nat.mul_le_mul_right _ hroom
                                        rw [List.length_append, List.length_append, hxl', hnl', List.length_drop, ← Nat.add_mul, ← hln]
                                        omega
                                      have hbl := E.holds L.ad _ List.mem_cons_self
                                      refine ⟨[(s1.n, ⟨L.ad, L.cap, (l' ++ L.sp).drop ((n + m) * te.sz)⟩)], _, w', hop hr, conc_sl ?_ ?_ hroom, H.move hk hL (concO_grow (L := ⟨L.ad, L.cap, (l' ++ L.sp).drop ((n + m) * te.sz)⟩) (concs_mono _ (concs_app hxc hnc)) hte hlen2) hs1 hs2 hbl (fun z hz1 hz2 => E.keep z hz1 (by simpa [ids] using hz2)) E.size E.os E.tape E.output⟩
                                      · unfold cad
                                        rw [BB_ble, BB_sub, cond_true, lcE_new _ (H.drop hs1).un]; rfl
                                      · rw [ccap_CC, lcE_new _ (H.drop hs1).un]; rfl
                                    · cases hb
                                · -- grown
                                  refine grow (H.drop hs1) hxc hxl' ?_ hroom hb rfl
                                  refine run_firstCells_some (P := C.P) w.drew te.sz n ⟨L.ad, 0, none⟩ n L.cap xs' hxl' (fun j v hj => ?_)
                                  rw [addr_add]
                                  have h7 := hxg L.sp j v hj
                                  have g3' : w.drew.heap[L.ad]? = _ := g3
                                  simp only [World.cell?, g3']
                                  simpa using h7
                              · rw [hbe] at hne; cases hne
                            · cases hb
                        · cases hb
                    | false =>
                      rw [hcc, cond_false] at hb
                      have hcc' : c' = c := by simp [ccap, hcc] at h2; exact h2.symm
                      subst hcc'
                      cases hroom : Nat.ble (n + m) c' with
                      | true =>
                        rw [hroom, cond_true] at hb
                        split at hb
                        · rename_i s1 hw
                          cases hb
                          obtain ⟨w', hst, H'⟩ := writeC_spec (P := C.P) H hb' hnc hw
                          have hr := run_app_room (ty := ty) (cap := c') (tk_slice hti) hui htei (hlen w) hf1 (Nat.le_of_ble_eq_true hroom) rfl hst
                          exact ⟨[], _, w', hop hr, by rw [List.append_nil]; exact conc_sl hb' h2 (Nat.le_of_ble_eq_true hroom), by rw [List.append_nil]; exact H'⟩
                        · cases hb
                      | false =>
                        rw [hroom, cond_false] at hb
                        split at hb
                        · rename_i xs hxs
                          obtain ⟨xs', g1, g2, g3, g4⟩ := readC_spec H hb' hxs
                          have hnr : ¬ n + m ≤ c' := fun hle => by rw [Nat.ble_eq_true_of_le hle] at hroom; cases hroom
                          refine grow H g1 g3 ?_ hnr hb rfl
                          exact run_firstCells_some (P := C.P) w.drew te.sz n ⟨b', o, none⟩ n c' xs' g3 (fun j v hj => by rw [addr_add]; exact g4 j v hj)
                        · cases hb
                  · cases hb
              · cases hb
      | _ => cases hb
    · cases hb
  · cases hb
end
end Go.Ev

/- Memory: copies, bytes and strings, pointers seen as others. -/
namespace Go.Ev
open Go.Wk
set_option linter.unusedVariables false
set_option linter.unusedSimpArgs false

section
variable {C : Ct} {w0 : World} {D : Nat → Prop} {ρ : Env} {s s' : St} {w : World} {N : Nat} {fm : Fm} {a : Act} {dst : Option Tmp} {ty : TypeId} {p : String} {af : Array Edge} {g : Option (Nat × Bool)}

/-! ### copy -/
def srcE (C : Ct) (s : St) (sz n : Nat) : Value → Option (Nat × List Value)
  | .slice none m _ => bif Nat.beq m 0 then some (0, []) else none
  | .slice (some ⟨b, o, none⟩) m _ => (match readC C s b o (Nat.min m n * sz) with
    | some cs => some (Nat.min m n, cs)
    | none => none)
  | .string q => bif Nat.beq sz 1 then some (Nat.min q.data.toList.length n, (q.data.toList.take (Nat.min q.data.toList.length n)).map fun b => .int .u8 b.toNat) else none
  | _ => none
theorem srcE_spec (H : Sr C w0 D ρ s w) {sz n k : Nat} {x x' : Value} {cs : List Value} (hx : conc ρ x = some x') (h : srcE C s sz n x = some (k, cs)) :
    ∃ m cs', (Builtin.lenOf x').run C.P w = .ok m w ∧ Nat.min m n = k ∧ concs ρ cs = some cs' ∧ cs.length = k * sz ∧ (Builtin.firstCells sz k x').run C.P w = .ok ⟨cs'⟩ w := by
  unfold srcE at h
  split at h
  · rename_i m' c
    cases hm : Nat.beq m' 0 with
    | false => rw [hm] at h; cases h
    | true =>
      rw [hm, cond_true] at h; cases h
      obtain rfl := Nat.eq_of_beq_eq_true hm
      simp only [conc, Option.some.injEq] at hx; subst hx
      exact ⟨0, [], rfl, Nat.zero_min n, concs_nil ρ, by simp, by simp [Builtin.firstCells]⟩
  · rename_i b o m' c
    split at h
    · rename_i cs0 hr
      cases h
      obtain ⟨a', c', h1, h2, h3, rfl⟩ := conc_slice.1 hx
      simp only [cA, Option.map_eq_some_iff] at h1
      obtain ⟨b', hb', rfl⟩ := h1
      obtain ⟨cs', g1, g2, g3, g4⟩ := readC_spec H hb' hr
      exact ⟨m', cs', rfl, rfl, g1, g2, run_firstCells_some (P := C.P) w sz _ ⟨b', o, none⟩ m' c' cs' g3 (fun j v hj => by rw [addr_add]; exact g4 j v hj)⟩
    · cases h
  · rename_i q
    cases hs : Nat.beq sz 1 with
    | false => rw [hs] at h; cases h
    | true =>
      rw [hs, cond_true] at h; cases h
      obtain rfl := Nat.eq_of_beq_eq_true hs
      simp only [conc, Option.some.injEq] at hx; subst hx
      have hsz : q.size = q.data.toList.length := by simp
      refine ⟨q.size, _, rfl, by rw [hsz], concs_bytes _, ?_, ?_⟩
      · rw [List.length_map, List.length_take, Nat.mul_one]
        exact Nat.min_eq_left (Nat.min_le_left _ _)
      · have h1 : (Builtin.firstCells 1 (Nat.min q.data.toList.length n) (.string q)) = pure ((q.extract 0 (Nat.min q.data.toList.length n)).data.map fun b => .int .u8 b.toNat) := rfl
        rw [h1]
        have e : (q.extract 0 (Nat.min q.data.toList.length n)).data.map (fun b => Value.int .u8 b.toNat) = ⟨(q.data.toList.take (Nat.min q.data.toList.length n)).map fun b => .int .u8 b.toNat⟩ := by
          apply Array.ext'
          simp
        rw [e]; rfl
  · cases h
def cpyE (C : Ct) (s : St) (t : TypeId) : Value → Value → Option (Value × St)
  | .slice base n c, x => (match C.tt.get t with
    | some ti => (match ti.k with
      | .slice e => (match C.tt.get e with
        | some te => (match srcE C s te.sz n x with
          | some (k, cs) => (match base with
            | none => bif Nat.beq k 0 then some (.int .i64 0, s) else none
            | some ⟨b, o, none⟩ => bif Nat.beq (k * te.sz) 0 then some (.int .i64 k, s) else (match writeC s b o cs with
              | some s' => some (.int .i64 k, s')
              | none => none)
            | _ => none)
          | none => none)
        | none => none)
      | _ => none)
    | none => none)
  | _, _ => none
theorem vm_cpy {t u : TypeId} {x y : Operand} {v q r : Value} (h : Fr ρ N fm a) (H : Sr C w0 D ρ s w) (hx : evE fm.t x = some v) (hy : evE fm.t y = some q) (hb : cpyE C s t v q = some (r, s')) :
    Vm C w0 D ρ w a ⟨dst, .call ⟨.builtin .copy, #[x, y], #[t, u]⟩, ty, p, af, g⟩ r s' := by
  obtain ⟨v', hv, he⟩ := evE_spec h hx
  obtain ⟨q', hq, he'⟩ := evE_spec h hy
  have hop : ∀ {u' : Value} {w' : World}, (Builtin.copy_ #[t, u] ty #[v', q']).run C.P w = .ok u' w' → (execOp a.eval ⟨dst, .call ⟨.builtin .copy, #[x, y], #[t, u]⟩, ty, p, af, g⟩).run C.P w = .ok (.value u') w' := fun hr => by
    simp only [execOp]
    simp [resolve, invoke, builtin, he, he', hr]
  unfold cpyE at hb
  split at hb
  · rename_i base n c
    cases ht : C.tt.get t with
    | none => rw [ht] at hb; cases hb
    | some ti =>
      rw [ht] at hb
      have hti := C.okT _ _ ht
      obtain ⟨kk, z0, sz0, by0⟩ := ti
      cases kk with
      | slice e =>
        simp only at hb
        cases hte : C.tt.get e with
        | none => rw [hte] at hb; cases hb
        | some te =>
          rw [hte] at hb
          simp only at hb
          split at hb
          · rename_i k cs hs
            obtain ⟨m, cs', g1, g2, g3, g4, g5⟩ := srcE_spec H hq hs
            split at hb
            · simp only [conc, Option.some.injEq] at hv; subst hv
              cases hk : Nat.beq k 0 with
              | false => rw [hk] at hb; cases hb
              | true =>
                rw [hk, cond_true] at hb; cases hb
                obtain rfl := Nat.eq_of_beq_eq_true hk
                refine ⟨[], .int .i64 0, w, hop ?_, conc_int _ _ _, by rw [List.append_nil]; exact H⟩
                rw [← g2] at g5
                simp [Builtin.copy_, run_underlying (tk_slice hti), Wk.run_sizeOf (C.okT _ _ hte), g1, g5, goInt]
                have h7 : min m n = 0 := g2
                omega
            · rename_i b o
              obtain ⟨a', c', h1, h2, h3, rfl⟩ := conc_slice.1 hv
              simp only [cA, Option.map_eq_some_iff] at h1
              obtain ⟨b', hb', rfl⟩ := h1
              cases hk : Nat.beq (k * te.sz) 0 with
              | true =>
                rw [hk, cond_true] at hb; cases hb
                have hl0 : cs' = [] := by
                  apply List.eq_nil_of_length_eq_zero
                  rw [concs_len g3, g4]; exact Nat.eq_of_beq_eq_true hk
                subst hl0
                refine ⟨[], .int .i64 k, w, hop ?_, conc_int _ _ _, by rw [List.append_nil]; exact H⟩
                subst g2
                simp [Builtin.copy_, run_underlying (tk_slice hti), Wk.run_sizeOf (C.okT _ _ hte), g1, g5, goInt, storeCells]
              | false =>
                rw [hk, cond_false] at hb
                split at hb
                · rename_i s1 hw
                  cases hb
                  obtain ⟨w', hst, H'⟩ := writeC_spec (P := C.P) H hb' g3 hw
                  refine ⟨[], .int .i64 k, w', hop ?_, conc_int _ _ _, by rw [List.append_nil]; exact H'⟩
                  subst g2
                  simp [Builtin.copy_, run_underlying (tk_slice hti), Wk.run_sizeOf (C.okT _ _ hte), g1, g5, goInt, hst]
                · cases hb
            · cases hb
          · cases hb
      | _ => cases hb
  · cases hb

/-! ### Bytes as a string -/
def byt : List Value → Option (List UInt8)
  | [] => some []
  | .int .u8 n :: r => bif decide (0 ≤ n) && decide (n < 256) then (match byt r with
    | some l => some (UInt8.ofNat n.toNat :: l)
    | none => none) else none
  | _ :: _ => none
theorem byt_spec : ∀ {cs : List Value} {l : List UInt8}, byt cs = some l → cs = l.map fun b => .int .u8 b.toNat
  | [], l, h => by simp only [byt] at h; cases h; rfl
  | c :: r, l, h => by
    unfold byt at h
    split at h
    · rename_i hh; cases hh
    · rename_i n r' heq
      cases heq
      cases hq : (decide (0 ≤ n) && decide (n < 256)) with
      | false => rw [hq] at h; cases h
      | true =>
        rw [hq, cond_true] at h
        simp only [Bool.and_eq_true, decide_eq_true_eq] at hq
        split at h
        · rename_i l' h2
          cases h
          rw [List.map_cons, ← byt_spec h2]
          congr 2
          have h3 : n.toNat < 256 := by omega
          rw [UInt8.toNat_ofNat']
          have : n.toNat % 2 ^ 8 = n.toNat := Nat.mod_eq_of_lt h3
          rw [this]
          exact (Int.toNat_of_nonneg hq.1).symm
        · cases h
    · cases h
def isByteSl (C : Ct) (src : TypeId) : Bool := match C.tt.get src with
  | some si => (match si.k with
    | .slice e => (match C.tt.get e with
      | some te => (match te.k with | .int .u8 => true | _ => false)
      | none => false)
    | _ => false)
  | none => false
def isStr (C : Ct) (t : TypeId) : Bool := match C.tt.get t with
  | some si => (match si.k with | .string => true | _ => false)
  | none => false
theorem isByteSl_spec {src : TypeId} (h : isByteSl C src = true) : ∃ e, C.P.underlying src = some (.slice e) ∧ C.P.underlying e = some (.int .u8) := by
  unfold isByteSl at h
  split at h
  · rename_i si hs
    obtain ⟨k, z, sz, by'⟩ := si
    cases k with
    | slice e =>
      simp only at h
      split at h
      · rename_i te hte
        obtain ⟨k2, z2, sz2, by2⟩ := te
        cases k2 with
        | int ik => cases ik <;> first | exact ⟨e, tk_slice (C.okT _ _ hs), tk_int (C.okT _ _ hte)⟩ | cases h
        | _ => cases h
      · cases h
    | _ => cases h
  · cases h
theorem isStr_spec {t : TypeId} (h : isStr C t = true) : C.P.underlying t = some .string := by
  unfold isStr at h
  split at h
  · rename_i si hs
    obtain ⟨k, z, sz, by'⟩ := si
    cases k <;> first | exact tk_string (C.okT _ _ hs) | cases h
  · cases h
def bstE (C : Ct) (s : St) (src dst : TypeId) : Value → Option Value
  | .slice none n c => bif isByteSl C src && isStr C dst then some (.string ⟨⟨[]⟩⟩) else none
  | .slice (some ⟨b, o, none⟩) n c => bif isByteSl C src && isStr C dst then (match readC C s b o n with
    | some cs => (match byt cs with
      | some l => some (.string ⟨⟨l⟩⟩)
      | none => none)
    | none => none) else none
  | _ => none
theorem concs_byt {cs cs' : List Value} {l : List UInt8} (h : byt cs = some l) (hc : concs ρ cs = some cs') : cs' = l.map fun b => .int .u8 b.toNat := by
  rw [byt_spec h, concs_bytes] at hc
  exact (Option.some.inj hc).symm
theorem vm_bst {src dst' : TypeId} {x : Operand} {v r : Value} (h : Fr ρ N fm a) (H : Sr C w0 D ρ s w) (hx : evE fm.t x = some v) (hb : bstE C s src dst' v = some r) : Vm C w0 D ρ w a ⟨dst, .convert src dst' x, ty, p, af, g⟩ r s := by
  obtain ⟨v', hv, he⟩ := evE_spec h hx
  have hop : ∀ {u' : Value}, (convert src dst' v').run C.P w = .ok u' w → (execOp a.eval ⟨dst, .convert src dst' x, ty, p, af, g⟩).run C.P w = .ok (.value u') w := fun hr => by
    simp only [execOp, he]
    rw [Sem.run_bind, hr]; rfl
  unfold bstE at hb
  split at hb
  · rename_i n c
    cases hq : (isByteSl C src && isStr C dst') with
    | false => rw [hq] at hb; cases hb
    | true =>
      rw [hq, cond_true] at hb; cases hb
      simp only [Bool.and_eq_true] at hq
      obtain ⟨e, h1, h2⟩ := isByteSl_spec hq.1
      have h3 := isStr_spec hq.2
      simp only [conc, Option.some.injEq] at hv; subst hv
      refine ⟨[], _, w, hop ?_, conc_str _ _, by rw [List.append_nil]; exact H⟩
      rw [run_convert_bytes_string w src dst' e none n c h1 h2 h3]
      rfl
  · rename_i b o n c
    cases hq : (isByteSl C src && isStr C dst') with
    | false => rw [hq] at hb; cases hb
    | true =>
      rw [hq, cond_true] at hb
      simp only [Bool.and_eq_true] at hq
      obtain ⟨e, h1, h2⟩ := isByteSl_spec hq.1
      have h3 := isStr_spec hq.2
      split at hb
      · rename_i cs hr
        split at hb
        · rename_i l hl
          cases hb
          obtain ⟨a', c', ha, hc, hn, rfl⟩ := conc_slice.1 hv
          simp only [cA, Option.map_eq_some_iff] at ha
          obtain ⟨b', hb', rfl⟩ := ha
          obtain ⟨cs', g1, g2, g3, g4⟩ := readC_spec H hb' hr
          have e1 := concs_byt hl g1
          subst e1
          refine ⟨[], _, w, hop ?_, conc_str _ _, by rw [List.append_nil]; exact H⟩
          have hll : l.length = n := by simpa using g3
          subst hll
          exact run_convert_bytes_back w src dst' e ⟨b', o, none⟩ c' l h1 h2 h3 (fun j hj => by
            rw [addr_add]
            exact g4 j _ (by rw [List.getElem?_map, List.getElem?_eq_getElem hj]; rfl))
        · cases hb
      · cases hb
  · cases hb

/-! ### Strings laid over a row, pointers without a type and back, pointers held against themselves -/
theorem shape_own (H : Sr C w0 D ρ s w) {k : Nat} {l : Array Value} {e : TypeId} {fz : Nat × Nat} {L : Loc} (hk : s.h.get k = some (.cells l e fz)) (hL : lcE ρ k = some L) :
    ∃ l' e', concs ρ l.toList = some l' ∧ w.heap[L.ad]? = some (.cells ⟨l' ++ L.sp⟩ e' (fzc L fz)) ∧ w.shape? L.ad = some (e', (l' ++ L.sp).length) ∧ ((Nat.ble BB e = true ∧ e' = e - BB) ∨ (Nat.ble BB e = false ∧ e' = e ∧ L.sp = [])) := by
  obtain ⟨L2, o', g1, g2, g3⟩ := H.holds _ _ hk
  rw [hL] at g1; cases g1
  obtain ⟨l', e', h1, rfl, h3⟩ := concO_cells g2
  refine ⟨l', e', h1, g3, ?_, ?_⟩
  · unfold World.shape?; rw [g3]; rfl
  · rcases h3 with ⟨h4, h5, _⟩ | h4
    · exact .inl ⟨h4, h5⟩
    · exact .inr h4

def ustE.isBytePt (C : Ct) (pt e : TypeId) : Bool := match C.tt.get pt, C.tt.get e with
  | some pi, some te => (match pi.k with | .pointer e' => Nat.beq e' e | _ => false) && Nat.beq te.sz 1
  | _, _ => false
def ustE (C : Ct) (s : St) (pt : TypeId) : Value → Value → Option (Value × St)
  | .pointer q, .int .i64 n => bif decide (n = 0) then some (.string ⟨⟨[]⟩⟩, s) else (match q with
    | some ⟨b, 0, none⟩ => bif Nat.ble BB b && decide (0 ≤ n) && decide (n < 4294967296) then (match s.h.get (b - BB) with
      | some (.cells l e (0, 0)) => bif ustE.isBytePt C pt (bif Nat.ble BB e then e - BB else e) then ((takeN l.toList 0 n.toNat).bind fun cs => (byt cs).bind fun bs => (s.upd (b - BB) (some (.cells l e (0, n.toNat)))).bind fun s' => some (.string ⟨⟨bs⟩⟩, s')) else none
      | _ => none) else none
    | _ => none)
  | _, _ => none
theorem isBytePt_spec {pt e : TypeId} (h : ustE.isBytePt C pt e = true) : C.P.underlying pt = some (.pointer e) ∧ C.P.cellsOf e = 1 := by
  unfold ustE.isBytePt at h
  split at h
  · rename_i pi te hp he
    simp only [Bool.and_eq_true] at h
    obtain ⟨h1, h2⟩ := h
    obtain ⟨k, z, sz, by'⟩ := pi
    obtain ⟨d, i, hd, hi, hk, hz, hs, hb⟩ := tiOf_spec (C.okT _ _ he)
    cases k with
    | pointer e' =>
      simp only at h1
      obtain rfl := Nat.eq_of_beq_eq_true h1
      refine ⟨tk_pointer (C.okT _ _ hp), ?_⟩
      unfold Program.cellsOf
      rw [hi]
      simp [hs, Nat.eq_of_beq_eq_true h2]
    | _ => cases h1
  · cases h
theorem vm_ust {pt it : TypeId} {x y : Operand} {v q r : Value} (h : Fr ρ N fm a) (H : Sr C w0 D ρ s w) (hx : evE fm.t x = some v) (hy : evE fm.t y = some q) (hb : ustE C s pt v q = some (r, s')) :
    Vm C w0 D ρ w a ⟨dst, .call ⟨.builtin .unsafeString, #[x, y], #[pt, it]⟩, ty, p, af, g⟩ r s' := by
  obtain ⟨v', hv, he⟩ := evE_spec h hx
  obtain ⟨q', hq, he'⟩ := evE_spec h hy
  have hop : ∀ {u' : Value} {w' : World}, (Builtin.unsafeString_ #[pt, it] ty #[v', q']).run C.P w = .ok u' w' → (execOp a.eval ⟨dst, .call ⟨.builtin .unsafeString, #[x, y], #[pt, it]⟩, ty, p, af, g⟩).run C.P w = .ok (.value u') w' := fun hr => by
    simp only [execOp]
    simp [resolve, invoke, builtin, he, he', hr]
  unfold ustE at hb
  split at hb
  · rename_i q0 n
    simp only [conc, Option.some.injEq] at hq; subst hq
    cases hn0 : decide (n = 0) with
    | true =>
      rw [hn0, cond_true] at hb; cases hb
      simp only [decide_eq_true_eq] at hn0
      subst hn0
      have : ∃ q1, v' = .pointer q1 := by
        cases q0 with
        | none => simp [conc] at hv; exact ⟨_, hv.symm⟩
        | some q0 => simp only [conc, Option.map_eq_some_iff] at hv; obtain ⟨b, _, rfl⟩ := hv; exact ⟨_, rfl⟩
      obtain ⟨q1, rfl⟩ := this
      refine ⟨[], _, w, hop (Go.Lib.run_unsafeString_none w pt it ty q1), conc_str _ _, by rw [List.append_nil]; exact H⟩
    | false =>
      rw [hn0, cond_false] at hb
      simp only [decide_eq_false_iff_not] at hn0
      split at hb
      · rename_i b
        simp only [conc, cA, Option.map_eq_some_iff] at hv
        obtain ⟨_, ⟨b', hb', rfl⟩, rfl⟩ := hv
        cases hq : (Nat.ble BB b && decide (0 ≤ n) && decide (n < 4294967296)) with
        | false => rw [hq] at hb; cases hb
        | true =>
          rw [hq, cond_true] at hb
          simp only [Bool.and_eq_true, decide_eq_true_eq] at hq
          obtain ⟨⟨hbb, hn1⟩, hn2⟩ := hq
          obtain ⟨L, hL, rfl⟩ := cad_own hbb hb'
          generalize b - BB = k at hb hL
          split at hb
          · rename_i l e hk
            obtain ⟨l', e', h1, h2, h3, h4⟩ := shape_own H hk hL
            rw [fzc_z] at h2
            have hee : (bif Nat.ble BB e then e - BB else e) = e' := by
              rcases h4 with ⟨h5, h6⟩ | ⟨h5, h6, _⟩
              · rw [h5, cond_true]; exact h6.symm
              · rw [h5, cond_false]; exact h6.symm
            rw [hee] at hb
            cases hbp : ustE.isBytePt C pt e' with
            | false => rw [hbp] at hb; cases hb
            | true =>
              rw [hbp, cond_true] at hb
              obtain ⟨h5, h6⟩ := isBytePt_spec hbp
              obtain ⟨cs, hcs, hb⟩ := Option.bind_eq_some_iff.1 hb
              obtain ⟨bs, hbs, hb⟩ := Option.bind_eq_some_iff.1 hb
              obtain ⟨s1, hs1, hb⟩ := Option.bind_eq_some_iff.1 hb
              cases hb
              obtain ⟨cs', g1, g2, g3, g4⟩ := takeN_spec h1 hcs
              have e1 := concs_byt hbs g1
              subst e1
              have hbl : bs.length = n.toNat := by simpa using g3
              have hne : bs ≠ [] := fun hnil => by rw [hnil] at hbl; simp at hbl; omega
              have hfit : bs.length ≤ (l' ++ L.sp).length := by
                have := g4 L.sp (bs.length - 1) (.int .u8 (bs[bs.length - 1]'(by have := List.length_pos_iff.2 hne; omega)).toNat) (by rw [List.getElem?_map, List.getElem?_eq_getElem]; rfl)
                have := (List.getElem?_eq_some_iff.1 this).1
                omega
              have hr := Go.Lib.run_unsafeString_row (P := C.P) w pt it ty e' h5 h6 L.ad _ h3 bs hne hfit (by omega) (fun j x hj => by
                rw [addr_add]
                simp only [World.cell?, h2]
                have := g4 L.sp j (.int .u8 x.toNat) (by rw [List.getElem?_map, hj]; rfl)
                simpa using this)
              have hnn : (bs.length : Int) = n := by rw [hbl]; exact Int.toNat_of_nonneg hn1
              rw [hnn] at hr
              refine ⟨[], _, _, hop hr, conc_str _ _, ?_⟩
              rw [List.append_nil]
              obtain ⟨L2, o', q1, q2, q3⟩ := H.holds _ _ hk
              rw [hL] at q1; cases q1
              obtain ⟨e'', hput, l'', hl'', ho⟩ := concO_put (fz' := (0, n.toNat)) (m := l.toList) (m' := l') q2 h1 rfl
              rw [fzc_z] at hput ho
              rw [h2] at q3
              have q4 := Option.some.inj q3
              rw [ho] at q4
              have he2 : e' = e'' := by injection q4
              subst he2
              have hfr : ∀ z, (w.freeze ⟨L.ad, 0, none⟩ bs.length).heap[z]? = if z = L.ad then some (.cells ⟨l' ++ L.sp⟩ e' (0, n.toNat)) else w.heap[z]? := fun z => by
                unfold World.freeze
                rw [if_neg (by have := List.length_pos_iff.2 hne; omega)]
                simp only [Array.getElem?_modify]
                by_cases hz : L.ad = z
                · subst hz
                  rw [if_pos rfl, if_pos rfl, h2]
                  simp [hbl]
                · rw [if_neg hz, if_neg (Ne.symm hz)]
              refine H.write hk hL hput hs1 (by rw [hfr, if_pos rfl]) (fun z _ hz => by rw [hfr, if_neg hz]) ?_ ?_ ?_ ?_
              · unfold World.freeze; split <;> simp
              · unfold World.freeze; split <;> rfl
              · unfold World.freeze; split <;> rfl
              · unfold World.freeze; split <;> rfl
          · cases hb
      · cases hb
  · cases hb

/-- *T to a pointer without a type and back: at a row of one's own that does not grow. -/
def uptE (C : Ct) (s : St) (src dst : TypeId) : Value → Option Value
  | .pointer (some ⟨b, o, none⟩) => bif Nat.ble BB b then (match s.h.get (b - BB) with
    | some (.cells l e _) => bif Nat.ble BB e then none else (match C.tt.get src, C.tt.get dst with
      | some si, some di => (match si.k, di.k with
        | .pointer t, .other => (match C.P.underlying dst, C.tt.get t with
          | some .unsafePointer, some ti => bif Nat.beq ti.sz 0 then none else bif Nat.blt o l.toList.length then some (.pointer (some ⟨b, o, none⟩)) else none
          | _, _ => none)
        | .other, .pointer u => (match C.P.underlying src, C.tt.get u with
          | some .unsafePointer, some _ => bif liesAt C.P C.P.depth e (l.toList.length / C.P.cellsOf e) o u 1 then some (.pointer (some ⟨b, o, none⟩)) else none
          | _, _ => none)
        | _, _ => none)
      | _, _ => none)
    | _ => none) else none
  | _ => none
theorem vm_upt {src dst' : TypeId} {x : Operand} {v r : Value} (h : Fr ρ N fm a) (H : Sr C w0 D ρ s w) (hx : evE fm.t x = some v) (hb : uptE C s src dst' v = some r) : Vm C w0 D ρ w a ⟨dst, .convert src dst' x, ty, p, af, g⟩ r s := by
  obtain ⟨v', hv, he⟩ := evE_spec h hx
  have hop : ∀ {u' : Value}, (convert src dst' v').run C.P w = .ok u' w → (execOp a.eval ⟨dst, .convert src dst' x, ty, p, af, g⟩).run C.P w = .ok (.value u') w := fun hr => by
    simp only [execOp, he]
    rw [Sem.run_bind, hr]; rfl
  unfold uptE at hb
  split at hb
  · rename_i b o
    have hv0 := hv
    simp only [conc, cA, Option.map_eq_some_iff] at hv
    obtain ⟨_, ⟨b', hb', rfl⟩, rfl⟩ := hv
    cases hbb : Nat.ble BB b with
    | false => rw [hbb] at hb; cases hb
    | true =>
      rw [hbb, cond_true] at hb
      obtain ⟨L, hL, rfl⟩ := cad_own hbb hb'
      generalize b - BB = k at hb hL
      split at hb
      · rename_i l e fz hk
        cases hee : Nat.ble BB e with
        | true => rw [hee] at hb; cases hb
        | false =>
          rw [hee, cond_false] at hb
          obtain ⟨l', e', h1, h2, h3, h4⟩ := shape_own H hk hL
          rcases h4 with ⟨h5, _⟩ | ⟨_, rfl, h6⟩
          · rw [hee] at h5; cases h5
          · rw [h6, List.append_nil] at h3
            have hll : l'.length = l.toList.length := concs_len h1
            split at hb
            · rename_i si di hs hd
              obtain ⟨k1, z1, sz1, by1⟩ := si
              obtain ⟨k2, z2, sz2, by2⟩ := di
              simp only at hb
              split at hb
              · rename_i t
                split at hb
                · rename_i ti hu ht
                  cases hz : Nat.beq ti.sz 0 with
                  | true => rw [hz] at hb; cases hb
                  | false =>
                    rw [hz, cond_false] at hb
                    cases ho : Nat.blt o l.toList.length with
                    | false => rw [ho] at hb; cases hb
                    | true =>
                      rw [ho, cond_true] at hb; cases hb
                      have ho' : o < l.toList.length := Nat.lt_of_lt_of_le (Nat.lt_succ_self _) (Nat.le_of_ble_eq_true ho)
                      obtain ⟨d, i, _, hi, _, _, hsz, _⟩ := tiOf_spec (C.okT _ _ ht)
                      refine ⟨[], _, w, hop (Go.Lib.run_to_unsafe w ⟨L.ad, o, none⟩ (tk_pointer (C.okT _ _ hs)) hu hi (by rw [hsz]; exact Nat.ne_of_beq_eq_false hz) h3 (by rw [hll]; exact ho')), by rw [List.append_nil]; exact hv0, by rw [List.append_nil]; exact H⟩
                · cases hb
              · rename_i u
                split at hb
                · rename_i ti hu ht
                  cases hz : liesAt C.P C.P.depth e' (l.toList.length / C.P.cellsOf e') o u 1 with
                  | false => rw [hz] at hb; cases hb
                  | true =>
                    rw [hz, cond_true] at hb; cases hb
                    obtain ⟨d, i, _, hi, _, _, hsz, _⟩ := tiOf_spec (C.okT _ _ ht)
                    refine ⟨[], _, w, hop (Go.Lib.run_from_unsafe w ⟨L.ad, o, none⟩ hu (tk_pointer (C.okT _ _ hd)) hi h3 (by rw [hll]; exact hz)), by rw [List.append_nil]; exact hv0, by rw [List.append_nil]; exact H⟩
                · cases hb
              · cases hb
            · cases hb
      · cases hb
  · cases hb

/-- A string's bytes, anew. -/
def sbtE (C : Ct) (s : St) (src dst : TypeId) : Value → Option (Value × St)
  | .string q => bif isStr C src && isByteSl C dst then (match C.tt.get dst with
    | some di => (match di.k with
      | .slice e => bif Nat.ble BB e then none else (match C.tt.get e with
        | some te => bif Nat.beq te.sz 1 then (match s.new (.cells ⟨q.data.toList.map fun b => .int .u8 b.toNat⟩ (e + BB) (BB, 0)) with
          | some s' => some (.slice (some ⟨BB + s.n, 0, none⟩) q.data.toList.length CC, s')
          | none => none) else none
        | none => none)
      | _ => none)
    | none => none) else none
  | _ => none
theorem vm_sbt {src dst' : TypeId} {x : Operand} {v r : Value} (h : Fr ρ N fm a) (H : Sr C w0 D ρ s w) (hx : evE fm.t x = some v) (hb : sbtE C s src dst' v = some (r, s')) : Vm C w0 D ρ w a ⟨dst, .convert src dst' x, ty, p, af, g⟩ r s' := by
  obtain ⟨v', hv, he⟩ := evE_spec h hx
  have hop : ∀ {u' : Value} {w' : World}, (convert src dst' v').run C.P w = .ok u' w' → (execOp a.eval ⟨dst, .convert src dst' x, ty, p, af, g⟩).run C.P w = .ok (.value u') w' := fun hr => by
    simp only [execOp, he]
    rw [Sem.run_bind, hr]; rfl
  unfold sbtE at hb
  split at hb
  · rename_i q
    cases hq : (isStr C src && isByteSl C dst') with
    | false => rw [hq] at hb; cases hb
    | true =>
      rw [hq, cond_true] at hb
      simp only [Bool.and_eq_true] at hq
      have h1 := isStr_spec hq.1
      obtain ⟨e, h2, h3⟩ := isByteSl_spec hq.2
      split at hb
      · rename_i di hdi
        have hti := C.okT _ _ hdi
        obtain ⟨kk, z0, sz0, by0⟩ := di
        cases kk with
        | slice e2 =>
          have hu := tk_slice hti
          rw [h2] at hu
          cases hu
          simp only at hb
          cases hbe : Nat.ble BB e with
          | true => rw [hbe] at hb; cases hb
          | false =>
            rw [hbe, cond_false] at hb
            split at hb
            · rename_i te hte
              cases hsz : Nat.beq te.sz 1 with
              | false => rw [hsz] at hb; cases hb
              | true =>
                rw [hsz, cond_true] at hb
                have hsz' := Nat.eq_of_beq_eq_true hsz
                split at hb
                · rename_i s1 hs
                  cases hb
                  simp only [conc, Option.some.injEq] at hv; subst hv
                  have hr := run_bytes_of_string (P := C.P) w src dst' e q h1 h2 h3
                  have hge := grownCap_ge w q.size 0 e
                  have hqs : q.size = q.data.toList.length := by rw [Array.length_toList]; rfl
                  generalize hcap : grownCap w q.size 0 e = cap at hr hge
                  have hrow : bytesRow q cap = ⟨(q.data.toList.map fun b => Value.int .u8 b.toNat) ++ List.replicate (cap - q.size) (.int .u8 0)⟩ := by
                    apply Array.ext'; simp [bytesRow]
                  have hlen : ((q.data.toList.map fun b : UInt8 => Value.int .u8 b.toNat) ++ List.replicate (cap - q.size) (Value.int .u8 0)).length = cap := by
                    rw [List.length_append, List.length_map, List.length_replicate]; omega
                  have hsize : (bytesRow q cap).size = cap := by rw [hrow]; exact hlen
                  rw [hsize, hrow] at hr
                  refine ⟨[(s.n, ⟨w.heap.size, cap, List.replicate (cap - q.size) (.int .u8 0)⟩)], _, _, hop hr, conc_sl ?_ ?_ hge, ?_⟩
                  · unfold cad
                    rw [BB_ble, BB_sub, cond_true, lcE_new _ H.un]; rfl
                  · rw [ccap_CC, lcE_new _ H.un]; rfl
                  · refine Sr.alloc (w := w.drew) (s := s) (o := Obj.cells ⟨q.data.toList.map fun b : UInt8 => Value.int .u8 b.toNat⟩ (e + BB) (BB, 0)) (H.drew) ?_ hs
                    have hg := concO_grow (C := C) (ρ := ρ ++ [(s.n, ⟨w.heap.size, cap, List.replicate (cap - q.size) (.int .u8 0)⟩)]) (L := ⟨w.heap.size, cap, List.replicate (cap - q.size) (.int .u8 0)⟩) (fz := (BB, 0)) (concs_bytes q.data.toList) hte (by rw [hsz', Nat.mul_one]; exact hlen)
                    have hfz : fzc ⟨w.heap.size, cap, List.replicate (cap - q.size) (.int .u8 0)⟩ (BB, 0) = (cap, cap + 1) := by
                      unfold fzc
                      have : Nat.ble BB BB = true := by generalize BB = q; exact Nat.ble_eq_true_of_le (Nat.le_refl _)
                      rw [this]; rfl
                    rw [hfz] at hg
                    exact hg
                · cases hb
            · cases hb
        | _ => cases hb
      · cases hb
  · cases hb
/-- A pointer held against itself. -/
def samE (C : Ct) (op : BinOp) (t : TypeId) : Value → Value → Option Value
  | .pointer (some ⟨b, o, none⟩), .pointer (some ⟨b', o', none⟩) => bif Nat.beq b b' && Nat.beq o o' then (match C.tt.get t with
    | some ti => (match ti.k with
      | .pointer e => (match C.tt.get e, op with
        | some _, .neq => some (.bool false)
        | _, _ => none)
      | _ => none)
    | none => none) else none
  | _, _ => none
theorem gv_sam {op : BinOp} {t yt : TypeId} {x y : Operand} {v q r : Value} (h : Fr ρ N fm a) (hx : evE fm.t x = some v) (hy : evE fm.t y = some q) (hb : samE C op t v q = some r) : Gv C ρ a ⟨dst, .binOp op t x y yt, ty, p, af, g⟩ r := by
  obtain ⟨v', hv, he⟩ := evE_spec h hx
  obtain ⟨q', hq, he'⟩ := evE_spec h hy
  unfold samE at hb
  split at hb
  · rename_i b o b2 o2
    cases hbo : (Nat.beq b b2 && Nat.beq o o2) with
    | false => rw [hbo] at hb; cases hb
    | true =>
      rw [hbo, cond_true] at hb
      simp only [Bool.and_eq_true] at hbo
      obtain rfl := Nat.eq_of_beq_eq_true hbo.1
      obtain rfl := Nat.eq_of_beq_eq_true hbo.2
      rw [hv] at hq; cases hq
      simp only [conc, cA, Option.map_eq_some_iff] at hv
      obtain ⟨a', _, rfl⟩ := hv
      cases ht : C.tt.get t with
      | none => rw [ht] at hb; cases hb
      | some ti =>
        rw [ht] at hb
        obtain ⟨k, z, sz, by'⟩ := ti
        cases k with
        | pointer e =>
          simp only at hb
          split at hb
          · rename_i te hte
            cases hb
            obtain ⟨d, i, _, hi, _⟩ := tiOf_spec (C.okT _ _ hte)
            refine ⟨.bool false, conc_bool _ _, fun w => ?_⟩
            have h1 := Go.Lib.run_neq_ptr_same (P := C.P) w a' (tk_pointer (C.okT _ _ ht)) hi
            have h2 : (eqGuard .neq t x y (.pointer (some a')) (.pointer (some a'))).run C.P w = .ok () w := rfl
            simp only [execOp, he, he']
            rw [Sem.run_bind, Sem.run_bind, h2, Result.andThen_ok, h1]; rfl
          · cases hb
        | _ => cases hb
  · cases hb
end
end Go.Ev

/- Maps whose keys are numbers, strings, bools. -/
namespace Go.Ev
open Go.Wk
set_option linter.unusedVariables false
set_option linter.unusedSimpArgs false

def sameK : Tk → Value → Value → Option Bool
  | .int _, .int k a, .int k' b => bif decide (k = k') then some (a == b) else none
  | .string, .string a, .string b => some (eqB a.data.toList b.data.toList)
  | .bool, .bool a, .bool b => some (a == b)
  | _, _, _ => none
def scal : Tk → Value → Bool
  | .int _, .int _ _ => true
  | .string, .string _ => true
  | .bool, .bool _ => true
  | _, _ => false
def findE (K : Tk) (k : Value) : List MapEntry → Nat → Option (Option (Nat × Value))
  | [], _ => some none
  | e :: es, i => match sameK K k e.key with
    | some true => some (some (i, e.val))
    | some false => findE K k es (i + 1)
    | none => none
theorem eqB_beq (a b : ByteArray) : eqB a.data.toList b.data.toList = (a == b) := by
  rw [eqB_spec, beq_toListBytes, ByteArray.toList_eq, ByteArray.toList_eq]
theorem sameK_spec {K : Tk} {d : TypeDesc} {k v u : Value} {b : Bool} {ρ : Env} (hd : tkOf d = K) (h : sameK K k v = some b) (hv : conc ρ v = some u) : u = v ∧ Instr.sameNow d k v = some b := by
  unfold sameK at h
  split at h
  · rename_i k1 k2 a k3 b2
    simp only [conc, Option.some.injEq] at hv; subst hv
    refine ⟨rfl, ?_⟩
    cases d <;> simp [tkOf] at hd
    simp only [Instr.sameNow]
    cases hk : decide (k2 = k3) with
    | false => rw [hk] at h; cases h
    | true => rw [hk, cond_true] at h; simp only [decide_eq_true_eq] at hk; rw [if_pos hk]; exact h
  · rename_i a b2
    simp only [conc, Option.some.injEq] at hv; subst hv
    refine ⟨rfl, ?_⟩
    cases d <;> simp [tkOf] at hd
    simp only [Instr.sameNow]
    rw [eqB_beq] at h; exact h
  · simp only [conc, Option.some.injEq] at hv; subst hv
    refine ⟨rfl, ?_⟩
    cases d <;> simp [tkOf] at hd
    exact h
  · cases h

section
variable {C : Ct} {w0 : World} {D : Nat → Prop} {ρ : Env} {s s' : St} {w : World} {N : Nat} {fm : Fm} {a : Act} {dst : Option Tmp} {ty : TypeId} {p : String} {af : Array Edge} {g : Option (Nat × Bool)}

theorem concE_cons {e : MapEntry} {r us : List MapEntry} (h : concE ρ (e :: r) = some us) : ∃ k v t, conc ρ e.key = some k ∧ conc ρ e.val = some v ∧ concE ρ r = some t ∧ us = ⟨k, v, e.born⟩ :: t := by
  obtain ⟨k, v, b⟩ := e
  simp only [concE] at h
  split at h
  · rename_i k' v' t h1 h2 h3
    cases h; exact ⟨k', v', t, h1, h2, h3, rfl⟩
  · cases h
theorem findE_spec {K : Tk} {d : TypeDesc} {k : Value} (hd : tkOf d = K) : ∀ {es es' : List MapEntry} {i : Nat} {r : Option (Nat × Value)}, concE ρ es = some es' → findE K k es i = some r →
    ∃ r', Instr.findNow d k es' i = some r' ∧ (r = none → r' = none) ∧ ∀ j v, r = some (j, v) → ∃ u, r' = some (j, u) ∧ conc ρ v = some u ∧ i ≤ j ∧ ∃ e, es'[j - i]? = some e ∧ Instr.sameNow d k e.key = some true
  | [], es', i, r, hc, h => by
    simp only [concE, Option.some.injEq] at hc; subst hc
    simp only [findE, Option.some.injEq] at h; subst h
    exact ⟨none, rfl, fun _ => rfl, fun j v hj => by cases hj⟩
  | e :: es, es', i, r, hc, h => by
    obtain ⟨k', v', t, h1, h2, h3, rfl⟩ := concE_cons hc
    simp only [findE] at h
    split at h
    · rename_i hs
      obtain ⟨rfl, hs'⟩ := sameK_spec hd hs h1
      simp only [Option.some.injEq] at h; subst h
      refine ⟨some (i, v'), (by simp only [Instr.findNow, hs']), (fun hn => by cases hn), fun j v hj => ?_⟩
      cases hj
      exact ⟨v', rfl, h2, Nat.le_refl _, ⟨e.key, v', e.born⟩, by rw [Nat.sub_self]; rfl, hs'⟩
    · rename_i hs
      obtain ⟨rfl, hs'⟩ := sameK_spec hd hs h1
      obtain ⟨r', q1, q2, q3⟩ := findE_spec hd h3 h
      refine ⟨r', by simp only [Instr.findNow, hs']; exact q1, q2, fun j v hj => ?_⟩
      obtain ⟨u, q4, q5, q6, e2, q7, q8⟩ := q3 j v hj
      refine ⟨u, q4, q5, by omega, e2, ?_, q8⟩
      rw [show j - i = (j - (i + 1)) + 1 from by omega, List.getElem?_cons_succ]; exact q7
    · cases h
theorem checkKey_ok {P : Program} {K : Tk} {kt : TypeId} {d : TypeDesc} {k : Value} (hd : P.underlying kt = some d) (hk : tkOf d = K) (h : scal K k = true) (b : Bool) (n : Nat) (w : World) : (Instr.checkKey b (n + 1) kt k).run P w = .ok () w := by
  unfold scal at h
  split at h
  · cases d <;> simp [tkOf] at hk; simp [Instr.checkKey, run_underlying hd]
  · cases d <;> simp [tkOf] at hk; simp [Instr.checkKey, run_underlying hd]
  · cases d <;> simp [tkOf] at hk; simp [Instr.checkKey, run_underlying hd]
  · cases h
theorem scal_conc {K : Tk} {k u : Value} (h : scal K k = true) (hc : conc ρ k = some u) : u = k := by
  unfold scal at h
  split at h
  · simp only [conc, Option.some.injEq] at hc; exact hc.symm
  · simp only [conc, Option.some.injEq] at hc; exact hc.symm
  · simp only [conc, Option.some.injEq] at hc; exact hc.symm
  · cases h

/-- The entries of a map's value. -/
def entE (s : St) : Value → Option (List MapEntry)
  | .map none => some []
  | .map (some r) => bif Nat.ble BB r then (match s.h.get (r - BB) with
    | some (.map es _) => some es.toList
    | _ => none) else none
  | _ => none
theorem concO_map {L : Loc} {es : Array MapEntry} {c : Nat} {o : Obj} (h : concO C ρ L (.map es c) = some o) : ∃ es', concE ρ es.toList = some es' ∧ o = .map ⟨es'⟩ c := by
  have h' : (concE ρ es.toList).map (fun es' => Obj.map ⟨es'⟩ c) = some o := h
  obtain ⟨es', h1, rfl⟩ := Option.map_eq_some_iff.1 h'
  exact ⟨es', h1, rfl⟩
theorem concO_mkmap {L : Loc} {es es' : List MapEntry} {c : Nat} (h : concE ρ es = some es') : concO C ρ L (.map ⟨es⟩ c) = some (.map ⟨es'⟩ c) := by
  show (concE ρ es).map (fun es' => Obj.map ⟨es'⟩ c) = some (.map ⟨es'⟩ c)
  rw [h]; rfl
theorem entE_spec (H : Sr C w0 D ρ s w) {v v' : Value} {es : List MapEntry} (hv : conc ρ v = some v') (h : entE s v = some es) : ∃ es', concE ρ es = some es' ∧ ((v' = .map none ∧ es' = []) ∨ ∃ r c, v' = .map (some r) ∧ w.heap[r]? = some (.map ⟨es'⟩ c)) := by
  unfold entE at h
  split at h
  · cases h
    simp only [conc, Option.some.injEq] at hv; subst hv
    exact ⟨[], by simp [concE], .inl ⟨rfl, rfl⟩⟩
  · rename_i r
    simp only [conc, Option.map_eq_some_iff] at hv
    obtain ⟨r', hr, rfl⟩ := hv
    cases hb : Nat.ble BB r with
    | false => rw [hb] at h; cases h
    | true =>
      rw [hb, cond_true] at h
      obtain ⟨L, hL, rfl⟩ := cad_own hb hr
      generalize r - BB = k at h hL
      split at h
      · rename_i es0 c hk
        cases h
        obtain ⟨L2, o', q1, q2, q3⟩ := H.holds _ _ hk
        rw [hL] at q1; cases q1
        obtain ⟨es', q4, rfl⟩ := concO_map q2
        exact ⟨es', q4, .inr ⟨_, c, rfl, q3⟩⟩
      · cases h
  · cases h

def lkE (C : Ct) (s : St) (t : TypeId) (ok : Bool) (m k : Value) : Option Value := match C.tt.get t with
  | some ti => (match ti.k with
    | .map kt et => (match C.tt.get kt, C.tt.get et with
      | some ki, some ei => bif scal ki.k k && cst 8 ei.z then ((entE s m).bind fun es => (findE ki.k k es 0).bind fun r => match r with
        | some (_, v) => some (bif ok then .tuple ⟨[v, .bool true]⟩ else v)
        | none => some (bif ok then .tuple ⟨[ei.z, .bool false]⟩ else ei.z)) else none
      | _, _ => none)
    | _ => none)
  | none => none
theorem vm_lk {t : TypeId} {x y : Operand} {ok : Bool} {v q r : Value} (h : Fr ρ N fm a) (H : Sr C w0 D ρ s w) (hx : evE fm.t x = some v) (hy : evE fm.t y = some q) (hb : lkE C s t ok v q = some r) : Vm C w0 D ρ w a ⟨dst, .lookup t x y ok, ty, p, af, g⟩ r s := by
  obtain ⟨v', hv, he⟩ := evE_spec h hx
  obtain ⟨q', hq, he'⟩ := evE_spec h hy
  have hop : ∀ {u' : Value}, (Instr.lookup t v' q' ok).run C.P w = .ok u' w → (execOp a.eval ⟨dst, .lookup t x y ok, ty, p, af, g⟩).run C.P w = .ok (.value u') w := fun hr => by
    simp only [execOp, he, he']
    rw [Sem.run_bind, hr]; rfl
  unfold lkE at hb
  cases ht : C.tt.get t with
  | none => rw [ht] at hb; cases hb
  | some ti =>
    rw [ht] at hb
    have hti := C.okT _ _ ht
    obtain ⟨kk, z0, sz0, by0⟩ := ti
    cases kk with
    | map kt et =>
      simp only at hb
      split at hb
      · rename_i ki ei hki hei
        cases hsc : (scal ki.k q && cst 8 ei.z) with
        | false => rw [hsc] at hb; cases hb
        | true =>
          rw [hsc, cond_true] at hb
          simp only [Bool.and_eq_true] at hsc
          obtain ⟨es, hes, hb⟩ := Option.bind_eq_some_iff.1 hb
          obtain ⟨r0, hf, hb⟩ := Option.bind_eq_some_iff.1 hb
          obtain ⟨dk, _, hdk, _, hkk, _⟩ := tiOf_spec (C.okT _ _ hki)
          have hqq := scal_conc hsc.1 hq
          subst hqq
          obtain ⟨es', he1, he2⟩ := entE_spec H hv hes
          obtain ⟨r', hr1, hr2, hr3⟩ := findE_spec hkk he1 hf
          have hfk : ∀ w, (Instr.findKey kt q' es').run C.P w = .ok r' w := fun w => by
            simp only [Instr.findKey, Sem.run_bind, run_underlying hdk, Result.andThen_ok, hr1]; rfl
          have hck : ∀ b w, (Instr.checkKey b 10000 kt q').run C.P w = .ok () w := fun b w => checkKey_ok hdk hkk hsc.1 b 9999 w
          have hlk : ∀ {u : Value} {found : Bool}, (match r' with | some (_, v) => (v, true) | none => (ei.z, false)) = (u, found) → (Instr.lookup t v' q' ok).run C.P w = .ok (if ok then .tuple #[u, .bool found] else u) w := by
            intro u found hm
            rcases he2 with ⟨rfl, rfl⟩ | ⟨rr, c, rfl, hheap⟩
            · cases r' with
              | none => simp only [Prod.mk.injEq] at hm; obtain ⟨rfl, rfl⟩ := hm
                        simp [Instr.lookup, run_underlying (tk_map hti), hck, hfk, Wk.run_zeroValue (C.okT _ _ hei)]
              | some r' => obtain ⟨j, u'⟩ := r'; simp only [Prod.mk.injEq] at hm; obtain ⟨rfl, rfl⟩ := hm
                           simp [Instr.lookup, run_underlying (tk_map hti), hck, hfk]
            · have hg := run_getObj (P := C.P) hheap (by intros; simp)
              cases r' with
              | none => simp only [Prod.mk.injEq] at hm; obtain ⟨rfl, rfl⟩ := hm
                        simp [Instr.lookup, run_underlying (tk_map hti), hg, hck, hfk, Wk.run_zeroValue (C.okT _ _ hei)]
              | some r' => obtain ⟨j, u'⟩ := r'; simp only [Prod.mk.injEq] at hm; obtain ⟨rfl, rfl⟩ := hm
                           simp [Instr.lookup, run_underlying (tk_map hti), hg, hck, hfk]
          cases r0 with
          | none =>
            have hn := hr2 rfl
            subst hn
            have h9 := hlk rfl
            cases ok with
            | true =>
              simp only [Option.some.injEq] at hb; subst hb
              exact ⟨[], _, w, hop h9, by rw [List.append_nil]; exact conc_tuple (concs_cons.2 ⟨_, _, cst_conc hsc.2, concs_one (conc_bool _ _), rfl⟩), by rw [List.append_nil]; exact H⟩
            | false =>
              simp only [Option.some.injEq] at hb; subst hb
              exact ⟨[], _, w, hop h9, by rw [List.append_nil]; exact cst_conc hsc.2, by rw [List.append_nil]; exact H⟩
          | some r0 =>
            obtain ⟨j, v0⟩ := r0
            obtain ⟨u, hu1, hu2, _⟩ := hr3 j v0 rfl
            subst hu1
            have h9 := hlk rfl
            cases ok with
            | true =>
              simp only [Option.some.injEq] at hb; subst hb
              exact ⟨[], _, w, hop h9, by rw [List.append_nil]; exact conc_tuple (concs_cons.2 ⟨_, _, hu2, concs_one (conc_bool _ _), rfl⟩), by rw [List.append_nil]; exact H⟩
            | false =>
              simp only [Option.some.injEq] at hb; subst hb
              exact ⟨[], _, w, hop h9, by rw [List.append_nil]; exact hu2, by rw [List.append_nil]; exact H⟩
      · cases hb
    | _ => cases hb

/-! ### Written -/
def setEnt (k v : Value) : List MapEntry → Nat → List MapEntry
  | [], _ => []
  | e :: r, 0 => { e with key := k, val := v } :: r
  | e :: r, i + 1 => e :: setEnt k v r i
theorem setEnt_eq (k v : Value) : ∀ (l : List MapEntry) (i : Nat), setEnt k v l i = l.modify i (fun e => { e with key := k, val := v })
  | [], i => by simp [setEnt]
  | e :: r, 0 => by simp [setEnt]
  | e :: r, i + 1 => by simp [setEnt, setEnt_eq k v r i]
theorem setEnt_conc {k v v' : Value} (hk : conc ρ k = some k) (hv : conc ρ v = some v') : ∀ {l l' : List MapEntry} (i : Nat), concE ρ l = some l' → concE ρ (setEnt k v l i) = some (setEnt k v' l' i)
  | [], l', i, h => by simp only [concE, Option.some.injEq] at h; subst h; simp [setEnt, concE]
  | e :: r, l', 0, h => by
    obtain ⟨k1, v1, t, h1, h2, h3, rfl⟩ := concE_cons h
    simp only [setEnt, concE, hk, hv, h3]
  | e :: r, l', i + 1, h => by
    obtain ⟨k1, v1, t, h1, h2, h3, rfl⟩ := concE_cons h
    have ih := setEnt_conc hk hv i h3
    obtain ⟨ek, ev, eb⟩ := e
    simp only [setEnt, concE] at ih ⊢
    simp only at h1 h2
    rw [h1, h2, ih]
theorem concE_app : ∀ {l m l' m' : List MapEntry}, concE ρ l = some l' → concE ρ m = some m' → concE ρ (l ++ m) = some (l' ++ m')
  | [], m, l', m', h, h' => by simp only [concE, Option.some.injEq] at h; subst h; exact h'
  | e :: r, m, l', m', h, h' => by
    obtain ⟨k1, v1, t, h1, h2, h3, rfl⟩ := concE_cons h
    have ih := concE_app h3 h'
    obtain ⟨ek, ev, eb⟩ := e
    simp only at h1 h2
    simp only [List.cons_append, concE, h1, h2, ih]
theorem keyStays {P : Program} {d : TypeDesc} {k old : Value} (h : Instr.sameNow d k old = some true) (w : World) : (Instr.keyThatStays old k).run P w = .ok k w := by
  unfold Instr.sameNow at h
  split at h
  · rename_i k1 a k2 b
    split at h
    · rename_i hk
      subst hk
      simp at h
      subst h
      simp [Instr.keyThatStays, Instr.sameBits]
    · cases h
  · rename_i a b
    simp only [Option.some.injEq] at h
    simp [Instr.keyThatStays, Instr.sameBits]
    have h2 : (b == a) = true := by
      rw [beq_toListBytes, ByteArray.toList_eq, ByteArray.toList_eq] at h ⊢
      simp at h ⊢
      exact h.symm
    simp [h2]
  · rename_i a b
    simp at h
    subst h
    simp [Instr.keyThatStays, Instr.sameBits]
  · cases h
def mupE (C : Ct) (s : St) (t : TypeId) (m k v : Value) : Option St := match m with
  | .map (some r) => bif Nat.ble BB r then (match s.h.get (r - BB), C.tt.get t with
    | some (.map es clock), some ti => (match ti.k with
      | .map kt et => (match C.tt.get kt with
        | some ki => bif scal ki.k k then ((findE ki.k k es.toList 0).bind fun q => match q with
          | some (i, _) => s.upd (r - BB) (some (.map ⟨setEnt k v es.toList i⟩ clock))
          | none => s.upd (r - BB) (some (.map ⟨es.toList ++ [⟨k, v, clock⟩]⟩ (clock + 1)))) else none
        | none => none)
      | _ => none)
    | _, _ => none) else none
  | _ => none
theorem mupE_run (H : Sr C w0 D ρ s w) {t : TypeId} {m m' k k' v v' : Value} (hm : conc ρ m = some m') (hk : conc ρ k = some k') (hv : conc ρ v = some v') (hb : mupE C s t m k v = some s') :
    ∃ w', (Instr.mapUpdate t m' k' v').run C.P w = .ok () w' ∧ Sr C w0 D ρ s' w' := by
  unfold mupE at hb
  split at hb
  · rename_i r
    simp only [conc, Option.map_eq_some_iff] at hm
    obtain ⟨r', hr, rfl⟩ := hm
    cases hbb : Nat.ble BB r with
    | false => rw [hbb] at hb; cases hb
    | true =>
      rw [hbb, cond_true] at hb
      obtain ⟨L, hL, rfl⟩ := cad_own hbb hr
      generalize r - BB = kk at hb hL
      split at hb
      · rename_i es clock ti hkk ht
        have hti := C.okT _ _ ht
        obtain ⟨tk, z0, sz0, by0⟩ := ti
        cases tk with
        | map kt et =>
          simp only at hb
          split at hb
          · rename_i ki hki
            cases hsc : scal ki.k k with
            | false => rw [hsc] at hb; cases hb
            | true =>
              rw [hsc, cond_true] at hb
              obtain ⟨q, hf, hb⟩ := Option.bind_eq_some_iff.1 hb
              obtain ⟨L2, o', q1, q2, q3⟩ := H.holds _ _ hkk
              rw [hL] at q1; cases q1
              obtain ⟨es', q4, rfl⟩ := concO_map q2
              obtain ⟨dk, _, hdk, _, hk3, _⟩ := tiOf_spec (C.okT _ _ hki)
              have hqq := scal_conc hsc hk
              subst hqq
              obtain ⟨r0, hr1, hr2, hr3⟩ := findE_spec hk3 q4 hf
              have hfk : ∀ w, (Instr.findKey kt k' es').run C.P w = .ok r0 w := fun w => by
                simp only [Instr.findKey, Sem.run_bind, run_underlying hdk, Result.andThen_ok, hr1]; rfl
              have hck : ∀ b w, (Instr.checkKey b 10000 kt k').run C.P w = .ok () w := fun b w => checkKey_ok hdk hk3 hsc b 9999 w
              have hg := run_getObj (P := C.P) q3 (by intros; simp)
              have hset := fun o => run_setObj (P := C.P) q3 (by intros; simp) o
              have done : ∀ {o : Obj} {o2 : Obj}, concO C ρ L o = some o2 → s.upd kk (some o) = some s' → (Instr.mapUpdate t (.map (some L.ad)) k' v').run C.P w = .ok () { w with heap := w.heap.setIfInBounds L.ad o2 } → ∃ w', (Instr.mapUpdate t (.map (some L.ad)) k' v').run C.P w = .ok () w' ∧ Sr C w0 D ρ s' w' := by
                intro o o2 ho hu hrun
                have hlt := (Array.getElem?_eq_some_iff.1 q3).1
                exact ⟨_, hrun, H.write hkk hL ho hu (by simp [hlt]) (fun z _ hz => by
                  show (w.heap.setIfInBounds L.ad o2)[z]? = _
                  rw [Array.getElem?_setIfInBounds_ne (Ne.symm hz)]) (by simp) rfl rfl rfl⟩
              cases q with
              | none =>
                have hn := hr2 rfl
                subst hn
                refine done (concO_mkmap (concE_app q4 (m' := [⟨k', v', clock⟩]) (by simp only [concE, hk, hv]))) hb ?_
                simp [Instr.mapUpdate, run_underlying (tk_map hti), hg, hck, hfk, hset]
              | some q =>
                obtain ⟨i, v0⟩ := q
                obtain ⟨u, hu1, hu2, _, e2, hu3, hu4⟩ := hr3 i v0 rfl
                subst hu1
                rw [Nat.sub_zero] at hu3
                refine done (concO_mkmap (setEnt_conc hk hv i q4)) hb ?_
                have hks := keyStays (P := C.P) hu4 w
                have e5 : (⟨es'⟩ : Array MapEntry)[i]? = some e2 := by simpa using hu3
                have e6 : (⟨es'⟩ : Array MapEntry).modify i (fun e => { e with key := k', val := v' }) = ⟨setEnt k' v' es' i⟩ := by
                  apply Array.ext'
                  rw [Array.toList_modify, setEnt_eq]
                have e7 : es'.modify i (fun e => { e with key := k', val := v' }) = setEnt k' v' es' i := (setEnt_eq k' v' es' i).symm
                simp [Instr.mapUpdate, run_underlying (tk_map hti), hg, hck, hfk, hu3, hks, e7, hset]
          · cases hb
        | _ => cases hb
      · cases hb
  · cases hb
theorem um_mup {t : TypeId} {x y z : Operand} {m k v : Value} (h : Fr ρ N fm a) (H : Sr C w0 D ρ s w) (hx : evE fm.t x = some m) (hy : evE fm.t y = some k) (hz : evE fm.t z = some v) (hb : mupE C s t m k v = some s') : Um C w0 D ρ w a ⟨dst, .mapUpdate t x y z, ty, p, af, g⟩ s' := by
  obtain ⟨m', hm, he⟩ := evE_spec h hx
  obtain ⟨k', hk, he'⟩ := evE_spec h hy
  obtain ⟨v', hv, he''⟩ := evE_spec h hz
  obtain ⟨w', h1, h2⟩ := mupE_run H hm hk hv hb
  refine ⟨w', ?_, h2⟩
  simp only [execOp, he, he', he'']
  rw [Sem.run_bind, h1]; rfl
theorem um_ins {t : TypeId} {x y z : Operand} {m k v : Value} (h : Fr ρ N fm a) (H : Sr C w0 D ρ s w) (hx : evE fm.t x = some m) (hy : evE fm.t y = some k) (hz : evE fm.t z = some v) (hb : mupE C s t m k v = some s') : Um C w0 D ρ w a ⟨dst, .insert t x y z, ty, p, af, g⟩ s' := by
  obtain ⟨m', hm, he⟩ := evE_spec h hx
  obtain ⟨k', hk, he'⟩ := evE_spec h hy
  obtain ⟨v', hv, he''⟩ := evE_spec h hz
  obtain ⟨w', h1, h2⟩ := mupE_run H hm hk hv hb
  refine ⟨w', ?_, h2⟩
  simp only [execOp, he, he', he'']
  rw [Sem.run_bind, h1]; rfl

/-- A map made; its length. -/
def mkmE (s : St) : Option (Value × St) := (s.new (.map #[] 0)).bind fun s' => some (.map (some (BB + s.n)), s')
theorem vm_mkm {t : TypeId} {r : Value} (H : Sr C w0 D ρ s w) (hb : mkmE s = some (r, s')) : Vm C w0 D ρ w a ⟨dst, .makeMap t none, ty, p, af, g⟩ r s' := by
  unfold mkmE at hb
  obtain ⟨s1, hs, hb⟩ := Option.bind_eq_some_iff.1 hb
  cases hb
  refine ⟨[(s.n, ⟨w.heap.size, 0, []⟩)], .map (some w.heap.size), w.alloc (.map #[] 0), ?_, ?_, H.alloc (o' := .map #[] 0) rfl hs⟩
  · simp only [execOp]; rfl
  · have : cad (ρ ++ [(s.n, ⟨w.heap.size, 0, []⟩)]) (BB + s.n) = some w.heap.size := by
      unfold cad
      rw [BB_ble, BB_sub, cond_true, lcE_new _ H.un]; rfl
    simp only [conc, this, Option.map_some]
def lnmE (C : Ct) (s : St) (t : TypeId) (m : Value) : Option Value := match C.tt.get t with
  | some ti => (match ti.k with
    | .map _ _ => (match m with
      | .map (some _) => (entE s m).bind fun es => some (.int .i64 es.length)
      | _ => none)
    | _ => none)
  | none => none
theorem concE_len : ∀ {l us : List MapEntry}, concE ρ l = some us → us.length = l.length
  | [], us, h => by simp only [concE, Option.some.injEq] at h; subst h; rfl
  | e :: r, us, h => by
    obtain ⟨k1, v1, t, h1, h2, h3, rfl⟩ := concE_cons h
    simp [concE_len h3]
theorem vm_lnm {t : TypeId} {x : Operand} {v r : Value} (h : Fr ρ N fm a) (H : Sr C w0 D ρ s w) (hx : evE fm.t x = some v) (hb : lnmE C s t v = some r) : Vm C w0 D ρ w a ⟨dst, .call ⟨.builtin .len, #[x], #[t]⟩, ty, p, af, g⟩ r s := by
  obtain ⟨v', hv, he⟩ := evE_spec h hx
  unfold lnmE at hb
  cases ht : C.tt.get t with
  | none => rw [ht] at hb; cases hb
  | some ti =>
    rw [ht] at hb
    have hti := C.okT _ _ ht
    obtain ⟨kk, z0, sz0, by0⟩ := ti
    cases kk with
    | map kt et =>
      simp only at hb
      split at hb
      · rename_i rr
        obtain ⟨es, hes, hb⟩ := Option.bind_eq_some_iff.1 hb
        cases hb
        obtain ⟨es', h1, h2⟩ := entE_spec H hv hes
        simp only [conc, Option.map_eq_some_iff] at hv
        obtain ⟨r2, hr2, rfl⟩ := hv
        rcases h2 with ⟨h3, _⟩ | ⟨r3, c, h3, h4⟩
        · cases h3
        · cases h3
          have hg := run_getObj (P := C.P) h4 (by intros; simp)
          refine ⟨[], .int .i64 es.length, w, ?_, conc_int _ _ _, by rw [List.append_nil]; exact H⟩
          simp only [execOp]
          simp [resolve, invoke, builtin, Builtin.len_, he, run_underlying (tk_map hti), hg, goInt, concE_len h1]
      · cases hb
    | _ => cases hb
end
end Go.Ev

/- One operation, whatever it is. -/
namespace Go.Ev
open Go.Wk
set_option linter.unusedVariables false
set_option linter.unusedSimpArgs false

/-! ### Functions without a body -/
section
variable {C : Ct} {w0 : World} {D : Nat → Prop} {ρ : Env} {s s' : St} {w : World} {N : Nat} {fm : Fm} {a : Act}
theorem digits_size : ∀ (n t : Nat) (acc : Array Value), (Extern.BytealgMakeNoZero.digits n t acc).size = acc.size + n
  | 0, t, acc => rfl
  | n + 1, t, acc => by
    simp only [Extern.BytealgMakeNoZero.digits]
    rw [digits_size n]; simp; omega
def byteSl (C : Ct) : Option (TypeId × Ti) := match C.tt.get C.bt with
  | some bi => (match bi.k with
    | .slice e => (C.tt.get e).bind fun te => bif Nat.beq te.sz 1 then some (e, te) else none
    | _ => none)
  | none => none
def xE (C : Ct) (s : St) : Nat → List Value → Option (Value × St)
  | 0, [x] => some (x, s)
  | 1, [.string q, .int .u8 c] => some (.int .i64 (Go.Lib.indexByte q.data.toList c.toNat.toUInt8), s)
  | 2, [.string q, .int .u8 c] => some (.int .i64 (Go.Lib.countByte q.data.toList c.toNat.toUInt8 : Nat), s)
  | 3, [.int .i64 n] => bif decide (0 ≤ n) && decide (n ≤ 4294967296) then (byteSl C).bind fun q => growE C s q.1 n.toNat [] else none
  | _, _ => none
theorem byteSl_spec {e : TypeId} {te : Ti} (h : byteSl C = some (e, te)) : C.P.underlying C.bt = some (.slice e) ∧ C.tt.get e = some te ∧ te.sz = 1 := by
  unfold byteSl at h
  split at h
  · rename_i bi hb
    obtain ⟨k, z, sz, by'⟩ := bi
    cases k with
    | slice e' =>
      simp only at h
      obtain ⟨te', h1, h2⟩ := Option.bind_eq_some_iff.1 h
      cases hq : Nat.beq te'.sz 1 with
      | false => rw [hq] at h2; cases h2
      | true => rw [hq, cond_true] at h2; cases h2; exact ⟨tk_slice (C.okT _ _ hb), h1, Nat.eq_of_beq_eq_true hq⟩
    | _ => cases h
  · cases h
theorem xE_spec (H : Sr C w0 D ρ s w) {c : Nat} {args us : List Value} {r : Value} (ha : concs ρ args = some us) (h : xE C s c args = some (r, s')) :
    ∃ τ u w', (xrow C.bt c us.toArray).run C.P w = .ok u w' ∧ conc (ρ ++ τ) r = some u ∧ Sr C w0 D (ρ ++ τ) s' w' := by
  unfold xE at h
  split at h
  · cases h
    obtain ⟨u, t, h1, h2, rfl⟩ := concs_cons.1 ha
    rw [concs_nil] at h2; cases h2
    exact ⟨[], u, w, rfl, by rw [List.append_nil]; exact h1, by rw [List.append_nil]; exact H⟩
  · cases h
    obtain ⟨u, t, h1, h2, rfl⟩ := concs_cons.1 ha
    obtain ⟨u2, t2, h3, h4, rfl⟩ := concs_cons.1 h2
    rw [concs_nil] at h4; cases h4
    simp only [conc, Option.some.injEq] at h1 h3; subst h1; subst h3
    rename_i q c
    have hr : (xrow C.bt 1 #[.string q, .int .u8 c]).run C.P w = _ := Go.Lib.run_indexByteString q c w
    exact ⟨[], _, w, hr, conc_int _ _ _, by rw [List.append_nil]; exact H⟩
  · cases h
    obtain ⟨u, t, h1, h2, rfl⟩ := concs_cons.1 ha
    obtain ⟨u2, t2, h3, h4, rfl⟩ := concs_cons.1 h2
    rw [concs_nil] at h4; cases h4
    simp only [conc, Option.some.injEq] at h1 h3; subst h1; subst h3
    rename_i q c
    have hr : (xrow C.bt 2 #[.string q, .int .u8 c]).run C.P w = _ := Go.Lib.run_countString q c w
    exact ⟨[], _, w, hr, conc_int _ _ _, by rw [List.append_nil]; exact H⟩
  · rename_i n
    obtain ⟨u, t, h1, h2, rfl⟩ := concs_cons.1 ha
    rw [concs_nil] at h2; cases h2
    simp only [conc, Option.some.injEq] at h1; subst h1
    cases hq : (decide (0 ≤ n) && decide (n ≤ 4294967296)) with
    | false => rw [hq] at h; cases h
    | true =>
      rw [hq, cond_true] at h
      simp only [Bool.and_eq_true, decide_eq_true_eq] at hq
      obtain ⟨⟨e, te⟩, hbs, hg⟩ := Option.bind_eq_some_iff.1 h
      obtain ⟨hu, hte, hsz⟩ := byteSl_spec hbs
      let w2 : World := { w with drawn := w.drawn + 1 + 1 }
      have H2 : Sr C w0 D ρ s w2 := H.drew.drew
      let cap := (Question.appendCap n.toNat 0 e).cut (w.tape w.drawn (.appendCap n.toNat 0 e))
      let bytes := (Question.extern "internal/bytealg.MakeNoZero.bytes" 0).cut (w.tape (w.drawn + 1) (.extern "internal/bytealg.MakeNoZero.bytes" 0))
      have hcap : n.toNat ≤ cap := by simp [cap, Question.cut]
      have hsp : ((Extern.BytealgMakeNoZero.digits cap bytes #[]).toList).length = cap * te.sz := by
        rw [Array.length_toList, digits_size, hsz]; simp
      obtain ⟨g1, g2⟩ := growE_alloc (w := w2) (cap := cap) (sp := (Extern.BytealgMakeNoZero.digits cap bytes #[]).toList) H2 hte (concs_nil ρ) hcap (by rw [List.nil_append]; exact hsp) hg
      refine ⟨_, _, _, ?_, g1, g2⟩
      have h0 : ¬ n < 0 := by omega
      have h48 : ¬ (281474976710656 : Int) < n := by omega
      show (Extern.BytealgMakeNoZero.makeNoZero #[] #[C.bt] #[.int .i64 n]).run C.P w = _
      have hroom : ∀ c w, (askRoom c).run C.P w = .ok () w := fun c w => by unfold askRoom; split <;> rfl
      have hdef : Extern.BytealgMakeNoZero.makeNoZero #[] #[C.bt] #[.int .i64 n] = (do
        let .slice elem ← underlying C.bt | stuck "bytealg.MakeNoZero: slice type expected"
        if n < 0 || n > 2 ^ 48 then runtimePanic (.error "makeslice: len out of range")
        let cap ← choose (.appendCap n.toNat 0 elem)
        askRoom cap
        let bytes ← choose (.extern "internal/bytealg.MakeNoZero.bytes" 0)
        let a ← newRow elem (Extern.BytealgMakeNoZero.digits cap bytes #[])
        pure (.slice (some a) n.toNat cap)) := rfl
      rw [hdef]
      simp [run_underlying hu, h0, h48, hroom, Question.forced, newRow, w2, cap, bytes]
      rfl
  · cases h

/-! ### One operation -/
inductive OR where
  | val (v : Value) (s : St)
  | skip (s : St)
  | ent (f : FuncId) (args : List Value)
  | dfr (d : Deferred)
  | pan (v : Value)
  | rnd (l : Nat) (args : List Value)

def pairE : Option (Value × St) → Option OR
  | some (v, s) => some (.val v s)
  | none => none
def valE (s : St) : Option Value → Option OR
  | some v => some (.val v s)
  | none => none
def skipE : Option St → Option OR
  | some s => some (.skip s)
  | none => none
theorem pairE_some {q : Option (Value × St)} {r : OR} (h : pairE q = some r) : ∃ v s, q = some (v, s) ∧ r = .val v s := by
  unfold pairE at h
  split at h
  · cases h; exact ⟨_, _, rfl, rfl⟩
  · cases h
theorem valE_some {q : Option Value} {s : St} {r : OR} (h : valE s q = some r) : ∃ v, q = some v ∧ r = .val v s := by
  unfold valE at h
  split at h
  · cases h; exact ⟨_, rfl, rfl⟩
  · cases h
theorem skipE_some {q : Option St} {r : OR} (h : skipE q = some r) : ∃ s, q = some s ∧ r = .skip s := by
  unfold skipE at h
  split at h
  · cases h; exact ⟨_, rfl, rfl⟩
  · cases h

/-- A call of a function value. -/
def calE (C : Ct) (s : St) (args : List Value) : Value → Option OR
  | .func (.func k) l m => (match C.xt.get k with
    | some c => pairE (xE C s c (l.toList ++ args ++ m.toList))
    | none => some (.ent k (l.toList ++ args ++ m.toList)))
  | .func (.yield l) ⟨[]⟩ ⟨[]⟩ => some (.rnd l args)
  | _ => none
def dfrE (args : List Value) : Value → Option OR
  | .func (.func k) l m => some (.dfr ⟨.fn (.func k) m, ⟨l.toList ++ args⟩⟩)
  | _ => none
def panE : Value → Option OR
  | .iface t v => some (.pan (.iface t v))
  | _ => none
def oorE : Option OR → Option OR → Option OR
  | some v, _ => some v
  | none, q => q
theorem oorE_some {q r : Option OR} {v : OR} (h : oorE q r = some v) : q = some v ∨ r = some v := by
  cases q with
  | some u => exact .inl h
  | none => exact .inr h
def memE (C : Ct) (t : Tr Value) (s : St) : Op → Option OR
  | .load ty x => valE s ((evE t x).bind (ldE C s ty))
  | .store ty x y => skipE ((evE t x).bind fun q => (evE t y).bind fun v => stE C s ty v q)
  | .box e x => pairE ((evE t x).bind (boxE s e))
  | .alloc e => pairE (allE C s e)
  | .buildSlice ty len parts => pairE (litE C t s ty len parts)
  | .makeSlice ty x y => pairE ((evE t x).bind fun v => (evE t y).bind fun q => mksE C s ty v q)
  | .makeMap _ none => pairE (mkmE s)
  | .build ty parts => valE s (abE C t ty parts)
  | .lookup ty x y ok => valE s ((evE t x).bind fun m => (evE t y).bind fun k => lkE C s ty ok m k)
  | .mapUpdate ty x y z => skipE ((evE t x).bind fun m => (evE t y).bind fun k => (evE t z).bind fun v => mupE C s ty m k v)
  | .insert ty x y z => skipE ((evE t x).bind fun m => (evE t y).bind fun k => (evE t z).bind fun v => mupE C s ty m k v)
  | .convert src dst x => (evE t x).bind fun v => oorE (pairE (sbtE C s src dst v)) (valE s (orE (bstE C s src dst v) (uptE C s src dst v)))
  | .call ⟨.builtin .append, ⟨[x, y]⟩, ⟨[ty, u]⟩⟩ => pairE ((evE t x).bind fun v => (evE t y).bind fun q => appE C s ty u v q)
  | .call ⟨.builtin .copy, ⟨[x, y]⟩, ⟨[ty, u]⟩⟩ => pairE ((evE t x).bind fun v => (evE t y).bind fun q => cpyE C s ty v q)
  | .call ⟨.builtin .unsafeString, ⟨[x, y]⟩, ⟨[ty, u]⟩⟩ => pairE ((evE t x).bind fun v => (evE t y).bind fun q => ustE C s ty v q)
  | .call ⟨.builtin .len, ⟨[x]⟩, ⟨[ty]⟩⟩ => valE s ((evE t x).bind (lnmE C s ty))
  | .call ⟨.value f, xs, _⟩ => (evE t f).bind fun v => (evEs t xs.toList).bind fun args => calE C s args v
  | .defer ⟨.value f, xs, _⟩ => (evE t f).bind fun v => (evEs t xs.toList).bind fun args => dfrE args v
  | .panic x => (evE t x).bind panE
  | _ => none

/-- What comes of it in the world. -/
def OpS (C : Ct) (w0 : World) (D : Nat → Prop) (ρ : Env) (s : St) (w : World) (a : Act) (o : Oper) : OR → Prop
  | .val v s' => Vm C w0 D ρ w a o v s'
  | .skip s' => Um C w0 D ρ w a o s'
  | .ent f args => ∃ us, concs ρ args = some us ∧ ((C.ft.get f).isSome = true → (∀ fn, C.ft.get f = some fn → fn.body.isSome = true) → (execOp a.eval o).run C.P w = .ok (.enter f us.toArray) w)
  | .dfr d => ∃ d', concD ρ d = some d' ∧ (∃ c, o.op = .defer c) ∧ (execOp a.eval o).run C.P w = .ok (.defer d') w
  | .pan v => ∃ u, conc ρ v = some u ∧ (∃ x, o.op = .panic x) ∧ (execOp a.eval o).run C.P w = .halt (.panic u) w
  | .rnd l args => ∃ l' us, cad ρ l = some l' ∧ concs ρ args = some us ∧ execOp a.eval o = (do invoke (.fn (.yield l') #[]) us.toArray)

section
variable {dst : Option Tmp} {ty : TypeId} {p : String} {af : Array Edge} {g : Option (Nat × Bool)}
theorem callFunc_enter {k : FuncId} {fn : Func} (h : C.ft.get k = some fn) (hb : fn.body.isSome = true) (args : Array Value) (w : World) : (callFunc k args).run C.P w = .ok (.enter k args) w := by
  obtain ⟨h1, h2⟩ := C.okF k fn h
  have hn : fn.body.isNone = false := by cases hbb : fn.body <;> simp [hbb] at hb ⊢
  have hp : (program).run C.P w = .ok C.s.P w := rfl
  unfold callFunc
  rw [Sem.run_bind, hp, Result.andThen_ok]
  simp only [h1, h2, hn, Bool.false_eq_true, if_false]
  rfl
theorem calE_spec {f : Operand} {xs : Array Operand} {ats : Array TypeId} {v : Value} {args : List Value} {r : OR} (h : Fr ρ N fm a) (H : Sr C w0 D ρ s w) (hf : evE fm.t f = some v) (hx : evEs fm.t xs.toList = some args) (hb : calE C s args v = some r) :
    OpS C w0 D ρ s w a ⟨dst, .call ⟨.value f, xs, ats⟩, ty, p, af, g⟩ r := by
  obtain ⟨v', hv, he⟩ := evE_spec h hf
  have hxs := evEs_spec h hx
  have hmap : xs.map a.eval = ⟨xs.toList.map a.eval⟩ := by apply Array.ext'; simp
  unfold calE at hb
  split at hb
  · rename_i k l m
    simp only [conc, cfn] at hv
    split at hv
    · rename_i fn' l' m' hfn hl hm
      cases hfn; cases hv
      have hall : concs ρ (l.toList ++ args ++ m.toList) = some (l'.toList ++ xs.toList.map a.eval ++ m'.toList) := concs_app (concs_app (concA_iff.1 hl) hxs) (concA_iff.1 hm)
      have hex : execOp a.eval ⟨dst, .call ⟨.value f, xs, ats⟩, ty, p, af, g⟩ = callFunc k (l'.toList ++ xs.toList.map a.eval ++ m'.toList).toArray := by
        have e : (l'.toList ++ xs.toList.map a.eval ++ m'.toList).toArray = l' ++ xs.map a.eval ++ m' := by apply Array.ext'; simp
        rw [e]
        simp only [execOp, resolve, he, Deferred.ofValue]
        rfl
      split at hb
      · rename_i c hc
        obtain ⟨u, s1, h1, rfl⟩ := pairE_some hb
        obtain ⟨τ, u', w', g1, g2, g3⟩ := xE_spec H hall h1
        refine ⟨τ, u', w', ?_, g2, g3⟩
        rw [hex, C.okX k c hc, g1]; rfl
      · cases hb
        refine ⟨_, hall, fun h1 h2 => ?_⟩
        obtain ⟨fn, hfn⟩ := Option.isSome_iff_exists.1 h1
        rw [hex]
        exact callFunc_enter hfn (h2 fn hfn) _ w
    · cases hv
  · rename_i l
    cases hb
    simp only [conc, cfn, concA, concs, Option.map_some] at hv
    split at hv
    · rename_i fn' l' m' hfn hl hm
      simp only [Option.map_eq_some_iff] at hfn
      obtain ⟨l2, hl2, rfl⟩ := hfn
      cases hl; cases hm; cases hv
      refine ⟨l2, _, hl2, hxs, ?_⟩
      simp only [execOp, resolve, he, Deferred.ofValue, hmap]
      have e : (#[] : Array Value) ++ (⟨xs.toList.map a.eval⟩ : Array Value) = (xs.toList.map a.eval).toArray := by simp
      show invoke (.fn (.yield l2) #[]) (#[] ++ (⟨xs.toList.map a.eval⟩ : Array Value)) = _
      rw [e]
    · cases hv
  · cases hb
theorem dfrE_spec {f : Operand} {xs : Array Operand} {ats : Array TypeId} {v : Value} {args : List Value} {r : OR} (h : Fr ρ N fm a) (H : Sr C w0 D ρ s w) (hf : evE fm.t f = some v) (hx : evEs fm.t xs.toList = some args) (hb : dfrE args v = some r) :
    OpS C w0 D ρ s w a ⟨dst, .defer ⟨.value f, xs, ats⟩, ty, p, af, g⟩ r := by
  obtain ⟨v', hv, he⟩ := evE_spec h hf
  have hxs := evEs_spec h hx
  unfold dfrE at hb
  split at hb
  · rename_i k l m
    cases hb
    simp only [conc, cfn] at hv
    split at hv
    · rename_i fn' l' m' hfn hl hm
      cases hfn; cases hv
      refine ⟨⟨.fn (.func k) m', ⟨l'.toList ++ xs.toList.map a.eval⟩⟩, ?_, ⟨_, rfl⟩, ?_⟩
      · have := concs_app (concA_iff.1 hl) hxs
        simp only [concD, cfn, hm, concA_mk.2 (by exact this)]
      · simp only [execOp, resolve, he, Deferred.ofValue]
        have e : (⟨l'.toList ++ xs.toList.map a.eval⟩ : Array Value) = l' ++ xs.map a.eval := by apply Array.ext'; simp
        rw [e]; rfl
    · cases hv
  · cases hb
theorem panE_spec {x : Operand} {v : Value} {r : OR} (h : Fr ρ N fm a) (H : Sr C w0 D ρ s w) (hx : evE fm.t x = some v) (hb : panE v = some r) : OpS C w0 D ρ s w a ⟨dst, .panic x, ty, p, af, g⟩ r := by
  obtain ⟨v', hv, he⟩ := evE_spec h hx
  unfold panE at hb
  split at hb
  · cases hb
    have hv0 := hv
    simp only [conc, Option.map_eq_some_iff] at hv
    obtain ⟨u, hu, rfl⟩ := hv
    refine ⟨_, hv0, ⟨_, rfl⟩, ?_⟩
    simp only [execOp, he]
    rfl
  · cases hb
theorem memE_spec {op : Op} {r : OR} (h : Fr ρ N fm a) (H : Sr C w0 D ρ s w) (hb : memE C fm.t s op = some r) : OpS C w0 D ρ s w a ⟨dst, op, ty, p, af, g⟩ r := by
  unfold memE at hb
  split at hb
  · obtain ⟨v, h1, rfl⟩ := valE_some hb
    obtain ⟨u, h2, h3⟩ := Option.bind_eq_some_iff.1 h1; exact vm_load h H h2 h3
  · obtain ⟨v, h1, rfl⟩ := skipE_some hb
    obtain ⟨u, h2, h3⟩ := Option.bind_eq_some_iff.1 h1
    obtain ⟨u', h4, h5⟩ := Option.bind_eq_some_iff.1 h3; exact um_store h H h2 h4 h5
  · obtain ⟨v, s1, h1, rfl⟩ := pairE_some hb
    obtain ⟨u, h2, h3⟩ := Option.bind_eq_some_iff.1 h1; exact vm_box h H h2 h3
  · obtain ⟨v, s1, h1, rfl⟩ := pairE_some hb; exact vm_alloc H h1
  · obtain ⟨v, s1, h1, rfl⟩ := pairE_some hb; exact vm_lit h H h1
  · obtain ⟨v, s1, h1, rfl⟩ := pairE_some hb
    obtain ⟨u, h2, h3⟩ := Option.bind_eq_some_iff.1 h1
    obtain ⟨u', h4, h5⟩ := Option.bind_eq_some_iff.1 h3; exact vm_mks h H h2 h4 h5
  · obtain ⟨v, s1, h1, rfl⟩ := pairE_some hb; exact vm_mkm H h1
  · obtain ⟨v, h1, rfl⟩ := valE_some hb
    obtain ⟨u, q1, q2⟩ := gv_ab h h1
    exact ⟨[], u, w, q2 w, by rw [List.append_nil]; exact q1, by rw [List.append_nil]; exact H⟩
  · obtain ⟨v, h1, rfl⟩ := valE_some hb
    obtain ⟨u, h2, h3⟩ := Option.bind_eq_some_iff.1 h1
    obtain ⟨u', h4, h5⟩ := Option.bind_eq_some_iff.1 h3; exact vm_lk h H h2 h4 h5
  · obtain ⟨v, h1, rfl⟩ := skipE_some hb
    obtain ⟨u, h2, h3⟩ := Option.bind_eq_some_iff.1 h1
    obtain ⟨u', h4, h5⟩ := Option.bind_eq_some_iff.1 h3
    obtain ⟨u'', h6, h7⟩ := Option.bind_eq_some_iff.1 h5; exact um_mup h H h2 h4 h6 h7
  · obtain ⟨v, h1, rfl⟩ := skipE_some hb
    obtain ⟨u, h2, h3⟩ := Option.bind_eq_some_iff.1 h1
    obtain ⟨u', h4, h5⟩ := Option.bind_eq_some_iff.1 h3
    obtain ⟨u'', h6, h7⟩ := Option.bind_eq_some_iff.1 h5; exact um_ins h H h2 h4 h6 h7
  · obtain ⟨u, h2, h3⟩ := Option.bind_eq_some_iff.1 hb
    rcases oorE_some h3 with h5 | h5
    · obtain ⟨v, s1, h1, rfl⟩ := pairE_some h5
      exact vm_sbt h H h2 h1
    · obtain ⟨v, h1, rfl⟩ := valE_some h5
      rcases orE_some h1 with h4 | h4
      · exact vm_bst h H h2 h4
      · exact vm_upt h H h2 h4
  · obtain ⟨v, s1, h1, rfl⟩ := pairE_some hb
    obtain ⟨u, h2, h3⟩ := Option.bind_eq_some_iff.1 h1
    obtain ⟨u', h4, h5⟩ := Option.bind_eq_some_iff.1 h3; exact vm_app h H h2 h4 h5
  · obtain ⟨v, s1, h1, rfl⟩ := pairE_some hb
    obtain ⟨u, h2, h3⟩ := Option.bind_eq_some_iff.1 h1
    obtain ⟨u', h4, h5⟩ := Option.bind_eq_some_iff.1 h3; exact vm_cpy h H h2 h4 h5
  · obtain ⟨v, s1, h1, rfl⟩ := pairE_some hb
    obtain ⟨u, h2, h3⟩ := Option.bind_eq_some_iff.1 h1
    obtain ⟨u', h4, h5⟩ := Option.bind_eq_some_iff.1 h3; exact vm_ust h H h2 h4 h5
  · obtain ⟨v, h1, rfl⟩ := valE_some hb
    obtain ⟨u, h2, h3⟩ := Option.bind_eq_some_iff.1 h1; exact vm_lnm h H h2 h3
  · obtain ⟨v, h2, h3⟩ := Option.bind_eq_some_iff.1 hb
    obtain ⟨u', h4, h5⟩ := Option.bind_eq_some_iff.1 h3; exact calE_spec h H h2 h4 h5
  · obtain ⟨v, h2, h3⟩ := Option.bind_eq_some_iff.1 hb
    obtain ⟨u', h4, h5⟩ := Option.bind_eq_some_iff.1 h3; exact dfrE_spec h H h2 h4 h5
  · obtain ⟨v, h2, h3⟩ := Option.bind_eq_some_iff.1 hb; exact panE_spec h H h2 h3
  · cases hb

/-- Pure ones first; then memory; last the model's own text. -/
def fbOk : Op → Bool
  | .binOp .. => true
  | .unOp .. => true
  | .convert .. => true
  | .typeAssert .. => true
  | .call ⟨.builtin _, _, _⟩ => true
  | _ => false
def samO (C : Ct) (t : Tr Value) : Op → Option Value
  | .binOp op ty x y _ => (evE t x).bind fun v => (evE t y).bind fun w => samE C op ty v w
  | _ => none
theorem samO_spec {op : Op} {v : Value} (h : Fr ρ N fm a) (hb : samO C fm.t op = some v) : Gv C ρ a ⟨dst, op, ty, p, af, g⟩ v := by
  unfold samO at hb
  split at hb
  · obtain ⟨u, h2, h3⟩ := Option.bind_eq_some_iff.1 hb
    obtain ⟨u', h4, h5⟩ := Option.bind_eq_some_iff.1 h3; exact gv_sam h h2 h4 h5
  · cases hb
/-- What needs no memory. -/
def quiE (C : Ct) (t : Tr Value) (o : Oper) : Option Value := orE (fstE C t o.op) (orE (samO C t o.op) (bif fbOk o.op then fbE C t o else none))
theorem quiE_spec {o : Oper} {v : Value} (h : Fr ρ N fm a) (hb : quiE C fm.t o = some v) : Gv C ρ a o v := by
  rcases orE_some hb with h1 | h1
  · obtain ⟨dst, op, ty, p, af, g⟩ := o; exact fstE_spec h h1
  · rcases orE_some h1 with h1 | h1
    · obtain ⟨dst, op, ty, p, af, g⟩ := o; exact samO_spec h h1
    · cases hq : fbOk o.op with
      | false => rw [hq] at h1; cases h1
      | true => rw [hq, cond_true] at h1; exact fbE_spec h h1
def evO' (C : Ct) (t : Tr Value) (s : St) (o : Oper) : Option OR := match fstE C t o.op with
  | some v => some (.val v s)
  | none => (match memE C t s o.op with
    | some r => some r
    | none => valE s (orE (samO C t o.op) (bif fbOk o.op then fbE C t o else none)))
theorem Gv.vm {o : Oper} {v : Value} (H : Sr C w0 D ρ s w) (h : Gv C ρ a o v) : Vm C w0 D ρ w a o v s := by
  obtain ⟨u, h1, h2⟩ := h
  exact ⟨[], u, w, h2 w, by rw [List.append_nil]; exact h1, by rw [List.append_nil]; exact H⟩
theorem evO'_spec {o : Oper} {r : OR} (h : Fr ρ N fm a) (H : Sr C w0 D ρ s w) (hb : evO' C fm.t s o = some r) : OpS C w0 D ρ s w a o r := by
  unfold evO' at hb
  split at hb
  · rename_i v hv
    cases hb
    obtain ⟨dst, op, ty, p, af, g⟩ := o
    exact (fstE_spec h hv).vm H
  · split at hb
    · rename_i r' hm
      cases hb
      obtain ⟨dst, op, ty, p, af, g⟩ := o
      exact memE_spec h H hm
    · obtain ⟨v, h1, rfl⟩ := valE_some hb
      refine Gv.vm H (quiE_spec h ?_)
      rename_i hf _ _
      unfold quiE
      rw [hf]; exact h1
end
end
end Go.Ev
