/-
  Memory: append, copy.
-/
import Derived.Test.YthiehhglnaiohaaGreatDoorE8
namespace Go.Ev
open Go.Wk
set_option linter.unusedVariables false
set_option linter.unusedSimpArgs false

/-! ### The model's append, in general -/
section
variable {P : Program} {t u ty e : TypeId} {te : Ti} {x : Value} {m n cap : Nat} {base : Option Addr} {news : List Value} {w : World}
theorem run_app_room (ht : P.underlying t = some (.slice e)) (hu : ∃ d, P.underlying u = some d ∧ ∀ k, d ≠ .int k) (hte : tiOf P e = some te) (hlen : (Builtin.lenOf x).run P w = .ok m w) (hf : (Builtin.firstCells te.sz m x).run P w = .ok ⟨news⟩ w) (hroom : n + m ≤ cap)
    {b o : Nat} {w' : World} (hb : base = some ⟨b, o, none⟩) (hst : (storeCells ⟨b, o + n * te.sz, none⟩ news 0).run P w = .ok () w') :
    (Builtin.append_ #[t, u] ty #[.slice base n cap, x]).run P w = .ok (.slice base (n + m) cap) w' := by
  obtain ⟨d, hd, hne⟩ := hu
  subst hb
  simp [Builtin.append_, run_underlying ht, run_underlying hd, Wk.run_sizeOf hte, hlen, hroom, hf, addr_add, hst]
theorem run_app_none (ht : P.underlying t = some (.slice e)) (hu : ∃ d, P.underlying u = some d ∧ ∀ k, d ≠ .int k) (hte : tiOf P e = some te) (hlen : (Builtin.lenOf x).run P w = .ok m w) (hf : (Builtin.firstCells te.sz m x).run P w = .ok ⟨news⟩ w) (hroom : n + m ≤ cap) :
    (Builtin.append_ #[t, u] ty #[.slice none n cap, x]).run P w = .ok (.slice none (n + m) cap) w := by
  obtain ⟨d, hd, hne⟩ := hu
  simp [Builtin.append_, run_underlying ht, run_underlying hd, Wk.run_sizeOf hte, hlen, hroom, hf]
theorem run_app_grow (ht : P.underlying t = some (.slice e)) (hu : ∃ d, P.underlying u = some d ∧ ∀ k, d ≠ .int k) (hte : tiOf P e = some te) (hlen : (Builtin.lenOf x).run P w = .ok m w) (hf : (Builtin.firstCells te.sz m x).run P w.drew = .ok ⟨news⟩ w.drew) (hroom : ¬ n + m ≤ cap)
    {olds : List Value} (ho : (Builtin.firstCells te.sz n (.slice base n cap)).run P w.drew = .ok ⟨olds⟩ w.drew) (hbytes : (n + m) * te.by' ≤ 140737488355328) (h63 : n + m ≤ 1152921504606846976) :
    (Builtin.append_ #[t, u] ty #[.slice base n cap, x]).run P w = .ok (.slice (some ⟨w.heap.size, 0, none⟩) (n + m) (grownCap w (n + m) cap e)) (w.drew.alloc (.cells ⟨(olds ++ news) ++ (Builtin.zeroCells te.z.cells (grownCap w (n + m) cap e - (n + m))).toList⟩ e)) := by
  obtain ⟨d, hd, hne⟩ := hu
  obtain ⟨dd, i, hud, hi, hk, hz, hs, hby⟩ := tiOf_spec hte
  have hfit := growslice_fits (need := n + m) (old := cap) (bytes := i.bytes) (by omega) (by rw [hby]; exact hbytes)
  have h48' : ¬ (281474976710656 < Builtin.nextslicecap (n + m) cap * i.bytes) := by omega
  have h63' : ¬ (9223372036854775807 < ((n : Int) + (m : Int))) := by omega
  rw [← hs] at hf ho
  have e1 : (⟨(olds ++ news) ++ (Builtin.zeroCells te.z.cells (grownCap w (n + m) cap e - (n + m))).toList⟩ : Array Value) = (⟨olds⟩ : Array Value) ++ ⟨news⟩ ++ Builtin.zeroCells te.z.cells (grownCap w (n + m) cap e - (n + m)) := by apply Array.ext'; simp
  rw [e1]
  simp [Builtin.append_, run_underlying ht, run_underlying hd, sizeOf, typeInfo, zeroValue, hi, hz, hlen, hroom, h63', h48', Question.forced, hf, ho, newRow, grownCap]
  congr 2
  apply Array.ext'
  simp
end

/-! ### What is appended -/
def newsE (C : Ct) (s : St) (sz : Nat) : Value → Option (Nat × List Value)
  | .slice none m _ => bif Nat.beq m 0 then some (0, []) else none
  | .slice (some ⟨b, o, none⟩) m _ => (match readC C s b o (m * sz) with
    | some cs => some (m, cs)
    | none => none)
  | .string q => bif Nat.beq sz 1 then some (q.data.toList.length, q.data.toList.map fun b => .int .u8 b.toNat) else none
  | _ => none
section
variable {C : Ct} {w0 : World} {D : Nat → Prop} {ρ : Env} {s s' : St} {w : World} {N : Nat} {fm : Fm} {a : Act} {dst : Option Tmp} {ty : TypeId} {p : String} {af : Array Edge} {g : Option (Nat × Bool)}
theorem concs_bytes : ∀ (l : List UInt8), concs ρ (l.map fun b => Value.int .u8 b.toNat) = some (l.map fun b => .int .u8 b.toNat)
  | [] => concs_nil ρ
  | b :: r => concs_cons.2 ⟨_, _, conc_int _ _ _, concs_bytes r, rfl⟩
theorem newsE_spec (H : Sr C w0 D ρ s w) {sz m : Nat} {x x' : Value} {cs : List Value} (hx : conc ρ x = some x') (h : newsE C s sz x = some (m, cs)) :
    ∃ cs', concs ρ cs = some cs' ∧ cs.length = m * sz ∧ (∀ w', (Builtin.lenOf x').run C.P w' = .ok m w') ∧ (Builtin.firstCells sz m x').run C.P w = .ok ⟨cs'⟩ w ∧ (Builtin.firstCells sz m x').run C.P w.drew = .ok ⟨cs'⟩ w.drew := by
  unfold newsE at h
  split at h
  · rename_i m' c
    cases hm : Nat.beq m' 0 with
    | false => rw [hm] at h; cases h
    | true =>
      rw [hm, cond_true] at h; cases h
      obtain rfl := Nat.eq_of_beq_eq_true hm
      simp only [conc, Option.some.injEq] at hx; subst hx
      exact ⟨[], concs_nil ρ, by simp, fun w' => rfl, by simp [Builtin.firstCells], by simp [Builtin.firstCells]⟩
  · rename_i b o m' c
    split at h
    · rename_i cs0 hr
      cases h
      obtain ⟨a', c', h1, h2, h3, rfl⟩ := conc_slice.1 hx
      simp only [cA, Option.map_eq_some_iff] at h1
      obtain ⟨b', hb', rfl⟩ := h1
      obtain ⟨cs', g1, g2, g3, g4⟩ := readC_spec H hb' hr
      refine ⟨cs', g1, g2, fun w' => rfl, ?_, ?_⟩
      · exact run_firstCells_some (P := C.P) w sz m ⟨b', o, none⟩ m c' cs' g3 (fun j v hj => by rw [addr_add]; exact g4 j v hj)
      · exact run_firstCells_some (P := C.P) w.drew sz m ⟨b', o, none⟩ m c' cs' g3 (fun j v hj => by rw [addr_add]; exact g4 j v hj)
    · cases h
  · rename_i q
    cases hs : Nat.beq sz 1 with
    | false => rw [hs] at h; cases h
    | true =>
      rw [hs, cond_true] at h; cases h
      obtain rfl := Nat.eq_of_beq_eq_true hs
      simp only [conc, Option.some.injEq] at hx; subst hx
      have hsz : q.size = q.data.toList.length := by simp
      have h1 : ∀ w', (Builtin.firstCells 1 q.data.toList.length (.string q)).run C.P w' = .ok ⟨q.data.toList.map fun b => .int .u8 b.toNat⟩ w' := fun w' => by
        rw [← hsz]; exact Go.Lib.run_firstCells_string w' 1 q
      exact ⟨_, concs_bytes _, by simp, fun w' => by rw [← hsz]; rfl, h1 w, h1 w.drew⟩
  · cases h

/-- A row that may grow. -/
def growE (C : Ct) (s : St) (e : TypeId) (n : Nat) (cs : List Value) : Option (Value × St) := bif Nat.ble BB e then none else (match s.new (.cells ⟨cs⟩ (e + BB) (0, 0)) with
  | some s' => some (.slice (some ⟨BB + s.n, 0, none⟩) n CC, s')
  | none => none)
theorem ccap_CC (ρ : Env) (n : Nat) : ccap ρ (BB + n) CC = (ρ[n]?).map Loc.cap := by
  unfold ccap
  have h1 : Nat.ble CC CC = true := by generalize CC = q; exact Nat.ble_eq_true_of_le (Nat.le_refl _)
  have h2 : ∀ x : Nat, x - (CC - CC) = x := fun x => by generalize CC = q; rw [Nat.sub_self]; rfl
  rw [h1, BB_ble, BB_sub]
  simp only [cond_true]
  have : (fun l : Loc => l.cap - (CC - CC)) = Loc.cap := funext fun l => h2 l.cap
  rw [this]

/-- The result of an append onto a grown row, newly allocated. -/
theorem growE_alloc (H : Sr C w0 D ρ s w) {e : TypeId} {te : Ti} {n cap : Nat} {cs cs' sp : List Value} {v : Value} (hte : C.tt.get e = some te) (hc : concs ρ cs = some cs') (hn : n ≤ cap) (hl : (cs' ++ sp).length = cap * te.sz) (h : growE C s e n cs = some (v, s')) :
    conc (ρ ++ [⟨w.heap.size, cap, sp⟩]) v = some (.slice (some ⟨w.heap.size, 0, none⟩) n cap) ∧ Sr C w0 D (ρ ++ [⟨w.heap.size, cap, sp⟩]) s' (w.alloc (.cells ⟨cs' ++ sp⟩ e)) := by
  unfold growE at h
  cases he : Nat.ble BB e with
  | true => rw [he] at h; cases h
  | false =>
    rw [he, cond_false] at h
    split at h
    · rename_i s1 hs
      cases h
      refine ⟨conc_sl ?_ ?_ hn, H.alloc (concO_grow (L := ⟨w.heap.size, cap, sp⟩) (concs_mono _ hc) hte hl) hs⟩
      · unfold cad
        rw [BB_ble, BB_sub, ← H.len]; simp
      · rw [ccap_CC, ← H.len]; simp
    · cases h

def appE (C : Ct) (s : St) (t u : TypeId) : Value → Value → Option (Value × St)
  | .slice base n c, x => match C.tt.get t, C.tt.get u with
    | some ti, some ui => (match ti.k with
      | .slice e => bif (match ui.k with | .int _ => true | _ => false) then none else (match C.tt.get e with
        | some te => bif Nat.beq te.z.cells.size te.sz then (match newsE C s te.sz x with
          | some (m, news) => bif Nat.ble ((n + m) * te.by') 140737488355328 && Nat.ble (n + m) 4294967296 then (match base with
            | none => bif Nat.ble (n + m) c then some (.slice none (n + m) c, s) else bif Nat.beq n 0 then growE C s e m news else none
            | some ⟨b, o, none⟩ => bif Nat.ble CC c then
                (bif Nat.beq c CC && Nat.beq o 0 && Nat.ble BB b && news.all Value.oneCell' then (match s.h.get (b - BB) with
                  | some (.cells l e' (0, 0)) => bif Nat.beq e' (e + BB) then (match takeN l.toList 0 (n * te.sz), s.upd (b - BB) none with
                    | some xs, some s1 => growE C s1 e (n + m) (xs ++ news)
                    | _, _ => none) else none
                  | _ => none) else none)
              else bif Nat.ble (n + m) c then (match writeC s b (o + n * te.sz) news with
                | some s' => some (.slice (some ⟨b, o, none⟩) (n + m) c, s')
                | none => none)
              else (match readC C s b o (n * te.sz) with
                | some xs => growE C s e (n + m) (xs ++ news)
                | none => none)
            | _ => none) else none
          | none => none) else none
        | none => none)
      | _ => none)
    | _, _ => none
  | _, _ => none
theorem not_int {P : Program} {u : TypeId} {ui : Ti} (hu : tiOf P u = some ui) (hk : (match ui.k with | .int _ => true | _ => false) = false) : ∃ d, P.underlying u = some d ∧ ∀ k, d ≠ .int k := by
  obtain ⟨d, i, hd, _, hkk, _⟩ := tiOf_spec hu
  refine ⟨d, hd, fun k hdk => ?_⟩
  subst hdk
  rw [← hkk] at hk
  simp [tkOf] at hk
theorem zeroCells_len (z : Array Value) (n : Nat) : (Builtin.zeroCells z n).toList.length = n * z.size := by rw [Array.length_toList]; exact size_zeroCells z n
theorem vm_app {t u : TypeId} {x y : Operand} {v q r : Value} (h : Fr ρ N fm a) (H : Sr C w0 D ρ s w) (hx : evE fm.t x = some v) (hy : evE fm.t y = some q) (hb : appE C s t u v q = some (r, s')) :
    Vm C w0 D ρ w a ⟨dst, .call ⟨.builtin .append, #[x, y], #[t, u]⟩, ty, p, af, g⟩ r s' := by
  obtain ⟨v', hv, he⟩ := evE_spec h hx
  obtain ⟨q', hq, he'⟩ := evE_spec h hy
  have hop : ∀ {u' : Value} {w' : World}, (Builtin.append_ #[t, u] ty #[v', q']).run C.P w = .ok u' w' → (execOp a.eval ⟨dst, .call ⟨.builtin .append, #[x, y], #[t, u]⟩, ty, p, af, g⟩).run C.P w = .ok (.value u') w' := fun hr => by
    simp only [execOp]
    simp [resolve, invoke, builtin, he, he', hr]
  unfold appE at hb
  split at hb
  · rename_i base n c
    split at hb
    · rename_i ti ui ht hu
      have hti := C.okT _ _ ht
      obtain ⟨kk, z0, sz0, by0⟩ := ti
      cases kk with
      | slice e =>
        simp only at hb
        cases hk : (match ui.k with | .int _ => true | _ => false : Bool) with
        | true => rw [hk] at hb; cases hb
        | false =>
          rw [hk, cond_false] at hb
          have hui := not_int (C.okT _ _ hu) hk
          cases hte : C.tt.get e with
          | none => rw [hte] at hb; cases hb
          | some te =>
            rw [hte] at hb
            simp only at hb
            have htei := C.okT _ _ hte
            cases hz : Nat.beq te.z.cells.size te.sz with
            | false => rw [hz] at hb; cases hb
            | true =>
              rw [hz, cond_true] at hb
              have hz' := Nat.eq_of_beq_eq_true hz
              split at hb
              · rename_i m news hnews
                obtain ⟨news', hnc, hnl, hlen, hf1, hf2⟩ := newsE_spec H hq hnews
                have hnl' : news'.length = m * te.sz := by rw [concs_len hnc]; exact hnl
                cases hbd : (Nat.ble ((n + m) * te.by') 140737488355328 && Nat.ble (n + m) 4294967296) with
                | false => rw [hbd] at hb; cases hb
                | true =>
                  rw [hbd, cond_true] at hb
                  simp only [Bool.and_eq_true] at hbd
                  have hby := Nat.le_of_ble_eq_true hbd.1
                  have h32 := Nat.le_of_ble_eq_true hbd.2
                  have h63 : n + m ≤ 1152921504606846976 := by omega
                  -- a grown row
                  have grow : ∀ {S1 : St} (H1 : Sr C w0 D ρ S1 w) {cap : Nat} {base' : Option Addr} {olds olds' : List Value}, concs ρ olds = some olds' → olds'.length = n * te.sz → (Builtin.firstCells te.sz n (.slice base' n cap)).run C.P w.drew = .ok ⟨olds'⟩ w.drew → ¬ n + m ≤ cap →
                      growE C S1 e (n + m) (olds ++ news) = some (r, s') → v' = .slice base' n cap → Vm C w0 D ρ w a ⟨dst, .call ⟨.builtin .append, #[x, y], #[t, u]⟩, ty, p, af, g⟩ r s' := by
                    intro S1 H1 cap base' olds olds' ho hol hfo hnr hg hve
                    subst hve
                    have hr := run_app_grow (ty := ty) (tk_slice hti) hui htei (hlen w) hf2 hnr hfo hby h63
                    have hge := grownCap_ge w (n + m) cap e
                    obtain ⟨g1, g2⟩ := growE_alloc (w := w.drew) (cap := grownCap w (n + m) cap e) (sp := (Builtin.zeroCells te.z.cells (grownCap w (n + m) cap e - (n + m))).toList) H1.drew hte (concs_app ho hnc) hge
                      (by rw [List.length_append, List.length_append, zeroCells_len, hol, hnl', hz', ← Nat.add_mul, ← Nat.add_mul]; congr 1; omega) hg
                    exact ⟨_, _, _, hop hr, g1, g2⟩
                  split at hb
                  · -- onto nil
                    simp only [conc, Option.some.injEq] at hv; subst hv
                    cases hroom : Nat.ble (n + m) c with
                    | true =>
                      rw [hroom, cond_true] at hb; cases hb
                      have hr := run_app_none (ty := ty) (tk_slice hti) hui htei (hlen w) hf1 (Nat.le_of_ble_eq_true hroom)
                      exact ⟨[], _, _, hop hr, conc_sn _ _ _, by rw [List.append_nil]; exact H⟩
                    | false =>
                      rw [hroom, cond_false] at hb
                      cases hn0 : Nat.beq n 0 with
                      | false => rw [hn0] at hb; cases hb
                      | true =>
                        rw [hn0, cond_true] at hb
                        obtain rfl := Nat.eq_of_beq_eq_true hn0
                        have hnr : ¬ 0 + m ≤ c := fun hle => by rw [Nat.ble_eq_true_of_le hle] at hroom; cases hroom
                        refine grow H (olds := []) (olds' := []) (concs_nil ρ) (by simp) (by simp [Builtin.firstCells]) hnr ?_ rfl
                        rw [List.nil_append, Nat.zero_add]; exact hb
                  · rename_i b o
                    obtain ⟨a', c', h1, h2, h3, rfl⟩ := conc_slice.1 hv
                    simp only [cA, Option.map_eq_some_iff] at h1
                    obtain ⟨b', hb', rfl⟩ := h1
                    cases hcc : Nat.ble CC c with
                    | true =>
                      rw [hcc, cond_true] at hb
                      cases hq1 : (Nat.beq c CC && Nat.beq o 0 && Nat.ble BB b && news.all Value.oneCell') with
                      | false => rw [hq1] at hb; cases hb
                      | true =>
                        rw [hq1, cond_true] at hb
                        simp only [Bool.and_eq_true] at hq1
                        obtain ⟨⟨⟨hc1, ho0⟩, hbb⟩, hone⟩ := hq1
                        obtain rfl := Nat.eq_of_beq_eq_true ho0
                        obtain ⟨L, hL, rfl⟩ := cad_own hbb hb'
                        have hcap : c' = L.cap := by
                          have hc2 := Nat.eq_of_beq_eq_true hc1
                          subst hc2
                          have hbq : b = BB + (b - BB) := by
                            have := Nat.le_of_ble_eq_true hbb
                            revert this; generalize BB = q; omega
                          rw [hbq, ccap_CC, hL] at h2
                          exact (Option.some.inj h2).symm
                        subst hcap
                        generalize b - BB = k at hb hL
                        split at hb
                        · rename_i l e' hk
                          cases hee : Nat.beq e' (e + BB) with
                          | false => rw [hee] at hb; cases hb
                          | true =>
                            rw [hee, cond_true] at hb
                            have hee' := Nat.eq_of_beq_eq_true hee
                            split at hb
                            · rename_i xs s1 hxs hs1
                              obtain ⟨L2, o', g1, g2, g3⟩ := H.holds _ _ hk
                              rw [hL] at g1; cases g1
                              obtain ⟨l', e1, hl', rfl, halt⟩ := concO_cells g2
                              have hbe : Nat.ble BB e' = true := by rw [hee']; generalize BB = q; exact Nat.ble_eq_true_of_le (Nat.le_add_left _ _)
                              rcases halt with ⟨_, he1, te2, ht2, hln⟩ | ⟨hne, _⟩
                              · have he1' : e1 = e := by rw [he1, hee']; generalize BB = q; exact Nat.add_sub_cancel e q
                                rw [← he1, he1', hte] at ht2
                                cases ht2
                                subst he1'
                                obtain ⟨xs', hxc, hxl, hxl', hxg⟩ := takeN_spec hl' hxs
                                by_cases hroom : n + m ≤ L.cap
                                · -- in place
                                  have hxe : xs' = (l' ++ L.sp).take (n * te.sz) := by
                                    apply List.ext_getElem?
                                    intro j
                                    by_cases hj : j < n * te.sz
                                    · rw [List.getElem?_take, if_pos hj]
                                      have := hxg L.sp j xs'[j] (List.getElem?_eq_getElem (by omega))
                                      rw [Nat.zero_add] at this
                                      rw [this, List.getElem?_eq_getElem]
                                    · rw [List.getElem?_eq_none (by omega), List.getElem?_eq_none (by rw [List.length_take]; omega)]
                                  have hfit : n * te.sz + news'.length ≤ (l' ++ L.sp).length := by
                                    rw [hln, hnl', ← Nat.add_mul]; exact Nat.mul_le_mul_right _ hroom
                                  obtain ⟨w', hst, E⟩ := run_storeCells (P := C.P) (e := e1) news' (l' ++ L.sp) (0 + n * te.sz) 0 w (by simpa using g3) (by omega) (concs_one' hnc hone)
                                  have hr := run_app_room (ty := ty) (cap := L.cap) (tk_slice hti) hui htei (hlen w) hf1 hroom rfl hst
                                  have hput : putC (l' ++ L.sp) (0 + n * te.sz + 0) news' = (xs' ++ news') ++ (l' ++ L.sp).drop ((n + m) * te.sz) := by
                                    have e5 := putC_append news' ((l' ++ L.sp).take (n * te.sz)) ((l' ++ L.sp).drop (n * te.sz)) (by rw [List.length_drop]; omega)
                                    rw [List.take_append_drop, List.length_take, Nat.min_eq_left (by omega), List.drop_drop, hnl', ← Nat.add_mul] at e5
                                    rw [Nat.zero_add, Nat.add_zero, e5, hxe]
                                  rw [hput] at E
                                  unfold growE at hb
                                  cases hbe2 : Nat.ble BB e1 with
                                  | true => rw [hbe2] at hb; cases hb
                                  | false =>
                                    rw [hbe2, cond_false] at hb
                                    split at hb
                                    · rename_i s2 hs2
                                      cases hb
                                      have hlen2 : (xs' ++ news' ++ (l' ++ L.sp).drop ((n + m) * te.sz)).length = L.cap * te.sz := by
                                        have hle : (n + m) * te.sz ≤ (l' ++ L.sp).length := by rw [hln]; exact Nat.mul_le_mul_right _ hroom
                                        rw [List.length_append, List.length_append, hxl', hnl', List.length_drop, ← Nat.add_mul, ← hln]
                                        omega
                                      have hbl := E.holds L.ad _ List.mem_cons_self
                                      refine ⟨[⟨L.ad, L.cap, (l' ++ L.sp).drop ((n + m) * te.sz)⟩], _, w', hop hr, conc_sl ?_ ?_ hroom, H.move hk hL (concO_grow (L := ⟨L.ad, L.cap, (l' ++ L.sp).drop ((n + m) * te.sz)⟩) (concs_mono _ (concs_app hxc hnc)) hte hlen2) hs1 hs2 hbl (fun z hz1 hz2 => E.keep z hz1 (by simpa [ids] using hz2)) E.size E.os E.tape E.output⟩
                                      · unfold cad
                                        have hn1 : s1.n = ρ.length := by rw [(H.drop hs1).len]
                                        rw [BB_ble, BB_sub, hn1]; simp
                                      · have hn1 : s1.n = ρ.length := by rw [(H.drop hs1).len]
                                        rw [ccap_CC, hn1]; simp
                                    · cases hb
                                · -- grown
                                  refine grow (H.drop hs1) hxc hxl' ?_ hroom hb rfl
                                  refine run_firstCells_some (P := C.P) w.drew te.sz n ⟨L.ad, 0, none⟩ n L.cap xs' hxl' (fun j v hj => ?_)
                                  rw [addr_add]
                                  have h7 := hxg L.sp j v hj
                                  have g3' : w.drew.heap[L.ad]? = _ := g3
                                  simp only [World.cell?, g3']
                                  simpa using h7
                              · rw [hbe] at hne; cases hne
                            · cases hb
                        · cases hb
                    | false =>
                      rw [hcc, cond_false] at hb
                      have hcc' : c' = c := by simp [ccap, hcc] at h2; exact h2.symm
                      subst hcc'
                      cases hroom : Nat.ble (n + m) c' with
                      | true =>
                        rw [hroom, cond_true] at hb
                        split at hb
                        · rename_i s1 hw
                          cases hb
                          obtain ⟨w', hst, H'⟩ := writeC_spec (P := C.P) H hb' hnc hw
                          have hr := run_app_room (ty := ty) (cap := c') (tk_slice hti) hui htei (hlen w) hf1 (Nat.le_of_ble_eq_true hroom) rfl hst
                          exact ⟨[], _, w', hop hr, by rw [List.append_nil]; exact conc_sl hb' h2 (Nat.le_of_ble_eq_true hroom), by rw [List.append_nil]; exact H'⟩
                        · cases hb
                      | false =>
                        rw [hroom, cond_false] at hb
                        split at hb
                        · rename_i xs hxs
                          obtain ⟨xs', g1, g2, g3, g4⟩ := readC_spec H hb' hxs
                          have hnr : ¬ n + m ≤ c' := fun hle => by rw [Nat.ble_eq_true_of_le hle] at hroom; cases hroom
                          refine grow H g1 g3 ?_ hnr hb rfl
                          exact run_firstCells_some (P := C.P) w.drew te.sz n ⟨b', o, none⟩ n c' xs' g3 (fun j v hj => by rw [addr_add]; exact g4 j v hj)
                        · cases hb
                  · cases hb
              · cases hb
      | _ => cases hb
    · cases hb
  · cases hb
end
end Go.Ev
