/-
  What needs no memory: slices cut, types asked, structs built; all of them.
-/
import Derived.Test.YthiehhglnaiohaaGreatDoorE5
namespace Go.Ev
open Go.Wk
set_option linter.unusedVariables false
set_option linter.unusedSimpArgs false

def slE (C : Ct) (t : TypeId) (lo hi : Option Value) : Value → Option Value
  | .string s => match C.tt.get t with
    | some ti => (match ti.k with
      | .string => (match bndE hi s.data.toList.length s.data.toList.length with
        | some h => (match bndE lo 0 h with
          | some l => some (.string ⟨⟨(s.data.toList.drop l).take (h - l)⟩⟩)
          | none => none)
        | none => none)
      | _ => none)
    | none => none
  | .slice none n c => match C.tt.get t with
    | some ti => (match ti.k with
      | .slice e => (match C.tt.get e with
        | some te => (match bndE hi n c with
          | some h => (match bndE lo 0 h with
            | some l => some (.slice none (h - l) (c - l))
            | none => none)
          | none => none)
        | none => none)
      | _ => none)
    | none => none
  | .slice (some ⟨b, o, none⟩) n c => match C.tt.get t with
    | some ti => (match ti.k with
      | .slice e => (match C.tt.get e with
        | some te => (match bndE hi n (bif Nat.ble CC c then n else c) with
          | some h => (match bndE lo 0 h with
            | some l => bif Nat.beq l 0 then some (.slice (some ⟨b, o, none⟩) h c) else bif Nat.ble CC c then (bif Nat.blt l n then some (.slice (some ⟨b, o + l * te.sz, none⟩) (h - l) (c + l)) else none)
                else some (.slice (some ⟨b, bif Nat.beq c l then o else o + l * te.sz, none⟩) (h - l) (c - l))
            | none => none)
          | none => none)
        | none => none)
      | _ => none)
    | none => none
  | .pointer (some ⟨b, o, none⟩) => match C.tt.get t with
    | some ti => (match ti.k with
      | .array n e => (match C.tt.get e with
        | some te => (match bndE hi n n with
          | some h => (match bndE lo 0 h with
            | some l => bif Nat.blt n CC then some (.slice (some ⟨b, bif Nat.beq n l then o else o + l * te.sz, none⟩) (h - l) (n - l)) else none
            | none => none)
          | none => none)
        | none => none)
      | _ => none)
    | none => none
  | _ => none
theorem bnd_le {v : Option Value} {d top r : Nat} (hd : d ≤ top) (h : bndE v d top = some r) : r ≤ top := by
  cases v with
  | none => simp only [bndE] at h; cases h; exact hd
  | some v => cases v with
    | int k i => obtain ⟨h1, h2, rfl⟩ := bndE_int h; omega
    | _ => simp [bndE] at h
/-- The same bound, over a higher top. -/
theorem bnd_up {v : Option Value} {d top top' r : Nat} (ht : top ≤ top') (h : bndE v d top = some r) : bndE v d top' = some r := by
  cases v with
  | none => exact h
  | some v => cases v with
    | int k i =>
      obtain ⟨h1, h2, rfl⟩ := bndE_int h
      have h3 : i ≤ top' := by omega
      simp [bndE, h1, h3]
    | _ => simp [bndE] at h
theorem gv_slice {C : Ct} {ρ : Env} {N : Nat} {fm : Fm} {a : Act} {dst : Option Tmp} {ty : TypeId} {p : String} {af : Array Edge} {g : Option (Nat × Bool)} {t : TypeId} {x : Operand} {lo hi : Option Operand} {l h : Option Value} {v r : Value}
    (hf : Fr ρ N fm a) (hx : evE fm.t x = some v) (hlo : evO fm.t lo = some l) (hhi : evO fm.t hi = some h) (hb : slE C t l h v = some r) : Gv C ρ a ⟨dst, .slice t x lo hi none, ty, p, af, g⟩ r := by
  obtain ⟨v', hv, he⟩ := evE_spec hf hx
  obtain ⟨hl, _⟩ := evO_spec hf hlo
  obtain ⟨hh, _⟩ := evO_spec hf hhi
  have hop : execOp a.eval ⟨dst, .slice t x lo hi none, ty, p, af, g⟩ = (do pure (.value (← Instr.sliceAt t v' l h none))) := by
    simp only [execOp, he, hl, hh]; rfl
  unfold slE at hb
  split at hb
  · rename_i s
    simp only [conc, Option.some.injEq] at hv; subst hv
    cases ht : C.tt.get t with
    | none => rw [ht] at hb; cases hb
    | some ti =>
      rw [ht] at hb
      have hti := C.okT _ _ ht
      obtain ⟨kk, z, sz, by'⟩ := ti
      cases kk with
      | string =>
        have hu := tk_string hti
        simp only at hb
        cases h1 : bndE h s.data.toList.length s.data.toList.length with
        | none => rw [h1] at hb; cases hb
        | some q =>
          rw [h1] at hb; simp only at hb
          cases h2 : bndE l 0 q with
          | none => rw [h2] at hb; cases hb
          | some m =>
            rw [h2] at hb; cases hb
            refine ⟨_, by first | exact conc_int _ _ _ | exact conc_str _ _ | exact conc_bool _ _ | exact conc_sn _ _ _ | exact conc_pn _, fun w => ?_⟩
            rw [hop]
            have hs : s.size = s.data.toList.length := by simp
            have hbd := run_bounds (P := C.P) (sl := false) (len := s.size) (cap := s.size) (by rw [hs]; exact h1) h2 w
            have e : s.extract m q = ⟨⟨(s.data.toList.drop m).take (q - m)⟩⟩ := bytes_eq (by simp [List.drop_take])
            simp [Instr.sliceAt, run_underlying hu, Instr.slice, hbd, e]
      | _ => cases hb
  · rename_i n c
    simp only [conc, Option.some.injEq] at hv; subst hv
    cases ht : C.tt.get t with
    | none => rw [ht] at hb; cases hb
    | some ti =>
      rw [ht] at hb
      have hti := C.okT _ _ ht
      obtain ⟨kk, z, sz, by'⟩ := ti
      cases kk with
      | slice e =>
        have hu := tk_slice hti
        simp only at hb
        cases hte : C.tt.get e with
        | none => rw [hte] at hb; cases hb
        | some te =>
          rw [hte] at hb; simp only at hb
          cases h1 : bndE h n c with
          | none => rw [h1] at hb; cases hb
          | some q =>
            rw [h1] at hb; simp only at hb
            cases h2 : bndE l 0 q with
            | none => rw [h2] at hb; cases hb
            | some m =>
              rw [h2] at hb; cases hb
              refine ⟨_, by first | exact conc_int _ _ _ | exact conc_str _ _ | exact conc_bool _ _ | exact conc_sn _ _ _ | exact conc_pn _, fun w => ?_⟩
              rw [hop]
              have hbd := run_bounds (P := C.P) (sl := true) (len := n) (cap := c) h1 h2 w
              simp [Instr.sliceAt, run_underlying hu, Instr.slice, hbd, Wk.run_sizeOf (C.okT _ _ hte)]
      | _ => cases hb
  · rename_i b o n c
    obtain ⟨a', c', ha, hc, hn, rfl⟩ := conc_slice.1 hv
    simp only [cA, Option.map_eq_some_iff] at ha
    obtain ⟨b', ha, rfl⟩ := ha
    cases ht : C.tt.get t with
    | none => rw [ht] at hb; cases hb
    | some ti =>
      rw [ht] at hb
      have hti := C.okT _ _ ht
      obtain ⟨kk, z, sz, by'⟩ := ti
      cases kk with
      | slice e =>
        have hu := tk_slice hti
        simp only at hb
        cases hte : C.tt.get e with
        | none => rw [hte] at hb; cases hb
        | some te =>
          rw [hte] at hb; simp only at hb
          cases h1 : bndE h n (bif Nat.ble CC c then n else c) with
          | none => rw [h1] at hb; cases hb
          | some q =>
            rw [h1] at hb; simp only at hb
            cases h2 : bndE l 0 q with
            | none => rw [h2] at hb; cases hb
            | some m =>
              rw [h2] at hb; simp only at hb
              have htop : (bif Nat.ble CC c then n else c) ≤ c' := by
                cases hcc : Nat.ble CC c with
                | true => exact hn
                | false => simp [ccap, hcc] at hc; subst hc; exact Nat.le_refl _
              have hntop : n ≤ (bif Nat.ble CC c then n else c) := by
                cases hcc : Nat.ble CC c with
                | true => exact Nat.le_refl _
                | false => simp [ccap, hcc] at hc; subst hc; exact hn
              have hq := bnd_le hntop h1
              have hm := bnd_le (Nat.zero_le q) h2
              have h1' := bnd_up htop h1
              have hr : ∀ w, (Instr.sliceAt t (.slice (some ⟨b', o, none⟩) n c') l h none).run C.P w = .ok (.slice (some (if c' = m then ⟨b', o, none⟩ else ⟨b', o + m * te.sz, none⟩)) (q - m) (c' - m)) w := fun w => by
                have hbd := run_bounds (P := C.P) (sl := true) (len := n) (cap := c') h1' h2 w
                simp [Instr.sliceAt, run_underlying hu, Instr.slice, hbd, Wk.run_sizeOf (C.okT _ _ hte), addr_add]
                by_cases hcm : c' = m <;> simp [hcm]
              cases hm0 : Nat.beq m 0 with
              | true =>
                rw [hm0] at hb; cases hb
                obtain rfl := Nat.eq_of_beq_eq_true hm0
                refine ⟨.slice (some ⟨b', o, none⟩) q c', conc_slice.2 ⟨_, c', by simp [cA, ha], hc, by omega, rfl⟩, fun w => ?_⟩
                rw [hop, Sem.run_bind, hr w]
                simp
              | false =>
                rw [hm0] at hb
                have hm1 := Nat.ne_of_beq_eq_false hm0
                cases hcc : Nat.ble CC c with
                | true =>
                  rw [hcc] at hb
                  simp only [cond_false, cond_true] at hb
                  cases hlt : Nat.blt m n with
                  | false => rw [hlt] at hb; cases hb
                  | true =>
                    rw [hlt] at hb; cases hb
                    have hlt' : m < n := Nat.lt_of_lt_of_le (Nat.lt_succ_self _) (Nat.le_of_ble_eq_true hlt)
                    refine ⟨.slice (some ⟨b', o + m * te.sz, none⟩) (q - m) (c' - m), conc_slice.2 ⟨_, c' - m, by simp [cA, ha], ?_, by omega, rfl⟩, fun w => ?_⟩
                    · unfold ccap at hc ⊢
                      have hcc2 : Nat.ble CC (c + m) = true := Nat.ble_eq_true_of_le (Nat.le_trans (Nat.le_of_ble_eq_true hcc) (Nat.le_add_right _ _))
                      rw [hcc] at hc
                      rw [hcc2]
                      simp only [cond_true] at hc ⊢
                      cases hbb : Nat.ble BB b with
                      | false => rw [hbb] at hc; cases hc
                      | true =>
                        rw [hbb] at hc
                        simp only [cond_true, Option.map_eq_some_iff] at hc ⊢
                        obtain ⟨L, hL, rfl⟩ := hc
                        refine ⟨L, hL, ?_⟩
                        have := Nat.le_of_ble_eq_true hcc
                        omega
                    · rw [hop, Sem.run_bind, hr w]
                      simp [show ¬ c' = m from by omega]
                | false =>
                  rw [hcc] at hb; cases hb
                  have hcc' : c' = c := by simp [ccap, hcc] at hc; exact hc.symm
                  subst hcc'
                  have hq' : q ≤ c' := by simpa [hcc] using hq
                  refine ⟨.slice (some (if c' = m then ⟨b', o, none⟩ else ⟨b', o + m * te.sz, none⟩)) (q - m) (c' - m), conc_slice.2 ⟨_, c' - m, ?_, ?_, by omega, rfl⟩, fun w => ?_⟩
                  · by_cases hcm : c' = m
                    · subst hcm; simp [cA, ha]
                    · have : Nat.beq c' m = false := by
                        cases hk : Nat.beq c' m with
                        | false => rfl
                        | true => exact absurd (Nat.eq_of_beq_eq_true hk) hcm
                      simp [cA, ha, hcm, this]
                  · have : Nat.ble CC (c' - m) = false := by
                      cases hk : Nat.ble CC (c' - m) with
                      | false => rfl
                      | true =>
                        have h5 := Nat.le_of_ble_eq_true hk
                        have : Nat.ble CC c' = true := Nat.ble_eq_true_of_le (by omega)
                        rw [hcc] at this; cases this
                    simp [ccap, this]
                  · rw [hop, Sem.run_bind, hr w]; rfl
      | _ => cases hb
  · rename_i b o
    simp only [conc, cA, Option.map_eq_some_iff] at hv
    obtain ⟨_, ⟨b', ha, rfl⟩, rfl⟩ := hv
    cases ht : C.tt.get t with
    | none => rw [ht] at hb; cases hb
    | some ti =>
      rw [ht] at hb
      have hti := C.okT _ _ ht
      obtain ⟨kk, z, sz, by'⟩ := ti
      cases kk with
      | array n e =>
        have hu := tk_array hti
        simp only at hb
        cases hte : C.tt.get e with
        | none => rw [hte] at hb; cases hb
        | some te =>
          rw [hte] at hb; simp only at hb
          cases h1 : bndE h n n with
          | none => rw [h1] at hb; cases hb
          | some q =>
            rw [h1] at hb; simp only at hb
            cases h2 : bndE l 0 q with
            | none => rw [h2] at hb; cases hb
            | some m =>
              rw [h2] at hb; simp only at hb
              cases hcc : Nat.blt n CC with
              | false => rw [hcc] at hb; cases hb
              | true =>
                rw [hcc] at hb; cases hb
                have hq := bnd_le (Nat.le_refl n) h1
                have hm := bnd_le (Nat.zero_le q) h2
                have hn' : n < CC := Nat.lt_of_lt_of_le (Nat.lt_succ_self _) (Nat.le_of_ble_eq_true hcc)
                refine ⟨.slice (some (if n = m then ⟨b', o, none⟩ else ⟨b', o + m * te.sz, none⟩)) (q - m) (n - m), conc_slice.2 ⟨_, n - m, ?_, ?_, by omega, rfl⟩, fun w => ?_⟩
                · by_cases hcm : n = m
                  · subst hcm; simp [cA, ha]
                  · have : Nat.beq n m = false := by
                      cases hk : Nat.beq n m with
                      | false => rfl
                      | true => exact absurd (Nat.eq_of_beq_eq_true hk) hcm
                    simp [cA, ha, hcm, this]
                · have : Nat.ble CC (n - m) = false := by
                    cases hk : Nat.ble CC (n - m) with
                    | false => rfl
                    | true => have h5 := Nat.le_of_ble_eq_true hk; omega
                  simp [ccap, this]
                · have hbd := run_bounds (P := C.P) (sl := false) (len := n) (cap := n) h1 h2 w
                  rw [hop]
                  simp [Instr.sliceAt, run_underlying hu, Instr.sureAddr, hbd, Wk.run_sizeOf (C.okT _ _ hte), addr_add]
      | _ => cases hb
  · cases hb

/-! ### Which type -/
def tasE (C : Ct) (asserted : TypeId) (ok : Bool) : Value → Option Value
  | .iface u v => match C.tt.get asserted with
    | some ti => (match ti.k with
      | .iface => none
      | _ => bif Nat.beq u asserted then some (bif ok then .tuple ⟨[v, .bool true]⟩ else v) else bif ok && cst 8 ti.z then some (.tuple ⟨[ti.z, .bool false]⟩) else none)
    | none => none
  | .nilIface => match C.tt.get asserted with
    | some ti => (match ti.k with
      | .iface => none
      | _ => bif ok && cst 8 ti.z then some (.tuple ⟨[ti.z, .bool false]⟩) else none)
    | none => none
  | _ => none
theorem gv_tas {C : Ct} {ρ : Env} {N : Nat} {fm : Fm} {a : Act} {dst : Option Tmp} {ty : TypeId} {p : String} {af : Array Edge} {g : Option (Nat × Bool)} {xt asserted : TypeId} {ok : Bool} {x : Operand} {v r : Value} (h : Fr ρ N fm a) (hx : evE fm.t x = some v)
    (hb : tasE C asserted ok v = some r) : Gv C ρ a ⟨dst, .typeAssert x xt asserted ok, ty, p, af, g⟩ r := by
  obtain ⟨v', hv, he⟩ := evE_spec h hx
  unfold tasE at hb
  split at hb
  · rename_i u v0
    simp only [conc, Option.map_eq_some_iff] at hv
    obtain ⟨v1, hv1, rfl⟩ := hv
    cases ht : C.tt.get asserted with
    | none => rw [ht] at hb; cases hb
    | some ti =>
      rw [ht] at hb
      have hti := C.okT _ _ ht
      have hz := fun w => Wk.run_zeroValue hti w
      obtain ⟨d, i, hd, _, hk, _⟩ := tiOf_spec hti
      obtain ⟨kk, z, sz, by'⟩ := ti
      simp only at hk hb
      have hne : kk ≠ .iface := by rintro rfl; simp at hb
      have hb' : (bif Nat.beq u asserted then some (bif ok then Value.tuple ⟨[v0, .bool true]⟩ else v0) else bif ok && cst 8 z then some (.tuple ⟨[z, .bool false]⟩) else none) = some r := by
        cases kk <;> first | exact hb | exact absurd rfl hne
      have hi : ∀ ms, d ≠ .interface ms := by rintro ms rfl; simp [tkOf] at hk; exact hne hk.symm
      cases hq : Nat.beq u asserted with
      | true =>
        rw [hq] at hb'
        obtain rfl := Nat.eq_of_beq_eq_true hq
        cases ok with
        | true =>
          cases hb'
          refine ⟨.tuple ⟨[v1, .bool true]⟩, by simp [conc, concA, concs, hv1], fun w => ?_⟩
          simp only [execOp, he]
          cases d <;> first | exact absurd rfl (hi _) | simp [Instr.typeAssert, run_underlying hd]
        | false =>
          cases hb'
          refine ⟨v1, hv1, fun w => ?_⟩
          simp only [execOp, he]
          cases d <;> first | exact absurd rfl (hi _) | simp [Instr.typeAssert, run_underlying hd]
      | false =>
        rw [hq] at hb'
        have hna := Nat.ne_of_beq_eq_false hq
        cases hc : (ok && cst 8 z) with
        | false => rw [hc] at hb'; cases hb'
        | true =>
          rw [hc] at hb'; cases hb'
          simp only [Bool.and_eq_true] at hc
          obtain ⟨rfl, hcz⟩ := hc
          refine ⟨.tuple ⟨[z, .bool false]⟩, by simp [conc, concA, concs, cst_conc hcz], fun w => ?_⟩
          simp only [execOp, he]
          have hz' := hz w
          cases d <;> first | exact absurd rfl (hi _) | simp [Instr.typeAssert, run_underlying hd, hna, hz']
  · simp only [conc, Option.some.injEq] at hv; subst hv
    cases ht : C.tt.get asserted with
    | none => rw [ht] at hb; cases hb
    | some ti =>
      rw [ht] at hb
      have hti := C.okT _ _ ht
      have hz := fun w => Wk.run_zeroValue hti w
      obtain ⟨d, i, hd, _, hk, _⟩ := tiOf_spec hti
      obtain ⟨kk, z, sz, by'⟩ := ti
      simp only at hk hb
      have hne : kk ≠ .iface := by rintro rfl; simp at hb
      have hb' : (bif ok && cst 8 z then some (Value.tuple ⟨[z, .bool false]⟩) else none) = some r := by
        cases kk <;> first | exact hb | exact absurd rfl hne
      have hi : ∀ ms, d ≠ .interface ms := by rintro ms rfl; simp [tkOf] at hk; exact hne hk.symm
      cases hc : (ok && cst 8 z) with
      | false => rw [hc] at hb'; cases hb'
      | true =>
        rw [hc] at hb'; cases hb'
        simp only [Bool.and_eq_true] at hc
        obtain ⟨rfl, hcz⟩ := hc
        refine ⟨.tuple ⟨[z, .bool false]⟩, by simp [conc, concA, concs, cst_conc hcz], fun w => ?_⟩
        simp only [execOp, he]
        have hz' := hz w
        cases d <;> first | exact absurd rfl (hi _) | simp [Instr.typeAssert, run_underlying hd, hz']
  · cases hb

/-! ### Structs and arrays put together -/
theorem conc_cells {ρ : Env} {v u : Value} (h : conc ρ v = some u) : concs ρ v.cells.toList = some u.cells.toList ∧ u.cells.size = v.cells.size := by
  have key : concs ρ v.cells.toList = some u.cells.toList := by
    cases v with
    | agg l => simp only [conc, Option.map_eq_some_iff] at h; obtain ⟨us, h1, rfl⟩ := h; exact concA_iff.1 h1
    | pointer x => cases x with
      | none => simp only [conc, Option.some.injEq] at h; subst h; exact concs_one (by simp [conc])
      | some x => have h' := h; simp only [conc, Option.map_eq_some_iff] at h; obtain ⟨us, h1, rfl⟩ := h; exact concs_one h'
    | slice x n c => cases x with
      | none => simp only [conc, Option.some.injEq] at h; subst h; exact concs_one (by simp [conc])
      | some x => have h' := h; obtain ⟨_, _, _, _, _, rfl⟩ := conc_slice.1 h; exact concs_one h'
    | map x => cases x with
      | none => simp only [conc, Option.some.injEq] at h; subst h; exact concs_one (by simp [conc])
      | some x => have h' := h; simp only [conc, Option.map_eq_some_iff] at h; obtain ⟨us, h1, rfl⟩ := h; exact concs_one h'
    | chan x => cases x with
      | none => simp only [conc, Option.some.injEq] at h; subst h; exact concs_one (by simp [conc])
      | some x => simp [conc] at h
    | func f l m =>
      have h' := h
      simp only [conc] at h
      split at h
      · cases h; exact concs_one h'
      · cases h
    | iface t x => have h' := h; simp only [conc, Option.map_eq_some_iff] at h; obtain ⟨us, h1, rfl⟩ := h; exact concs_one h'
    | tuple l => have h' := h; simp only [conc, Option.map_eq_some_iff] at h; obtain ⟨us, h1, rfl⟩ := h; exact concs_one h'
    | _ => simp only [conc, Option.some.injEq] at h; subst h; exact concs_one (by simp [conc])
  refine ⟨key, ?_⟩
  have := concs_len key
  simpa using this
theorem concs_put {ρ : Env} : ∀ {vs us l l' : List Value} (o : Nat), concs ρ vs = some us → concs ρ l = some l' → concs ρ (putC l o vs) = some (putC l' o us)
  | [], us, l, l', o, h, h' => by rw [concs_nil] at h; cases h; exact h'
  | v :: r, us, l, l', o, h, h' => by
    obtain ⟨u, t, h1, h2, rfl⟩ := concs_cons.1 h
    simp only [putC]
    exact concs_put (o + 1) h2 (concs_set h1 o h')
theorem concs_fill {ρ : Env} {ps : List (Nat × Nat)} : ∀ {is : List Nat} {vs us l l' cs : List Value}, concs ρ vs = some us → concs ρ l = some l' → fillC ps l (is.zip vs) = some cs → ∃ cs', concs ρ cs = some cs' ∧ fillC ps l' (is.zip us) = some cs'
  | [], vs, us, l, l', cs, h, h', hf => by simp [fillC] at hf; subst hf; exact ⟨l', h', by simp [fillC]⟩
  | i :: is, [], us, l, l', cs, h, h', hf => by rw [concs_nil] at h; cases h; simp [fillC] at hf; subst hf; exact ⟨l', h', by simp [fillC]⟩
  | i :: is, v :: r, us, l, l', cs, h, h', hf => by
    obtain ⟨u, t, h1, h2, rfl⟩ := concs_cons.1 h
    simp only [List.zip_cons_cons, fillC] at hf ⊢
    cases hp : ps[i]? with
    | none => rw [hp] at hf; cases hf
    | some q =>
      obtain ⟨off, sz⟩ := q
      rw [hp] at hf
      simp only at hf ⊢
      obtain ⟨hc1, hc2⟩ := conc_cells h1
      rw [hc2, concs_len h']
      cases hb : (Nat.beq v.cells.size sz && Nat.ble (off + sz) l.length) with
      | false => rw [hb] at hf; cases hf
      | true =>
        rw [hb] at hf
        simp only [cond_true] at hf ⊢
        exact concs_fill h2 (concs_put off hc1 h') hf
def plcE (C : Ct) : List (Nat × TypeId) → Option (List (Nat × Nat))
  | [] => some []
  | (off, ft) :: r => match C.tt.get ft, plcE C r with
    | some tf, some ps => some ((off, tf.sz) :: ps)
    | _, _ => none
theorem plcE_spec {C : Ct} : ∀ {fs : List (Nat × TypeId)} {ps : List (Nat × Nat)}, plcE C fs = some ps → plc C.s.tab fs = some ps
  | [], ps, h => h
  | (off, ft) :: r, ps, h => by
    simp only [plcE] at h
    split at h
    · rename_i tf ps' h1 h2
      cases h
      simp only [plc, C.okL _ _ h1, plcE_spec h2]
    · cases h
def bldE (C : Ct) (t : Tr Value) (ty : TypeId) (parts : Array (Nat × Operand)) : Option Value := match C.tt.get ty with
  | some ti => (match ti.k with
    | .struct fs => (match plcE C fs, evEs t (parts.toList.map (·.2)) with
      | some ps, some vs => bif cst 8 ti.z then (match fillC ps ti.z.cells.toList ((parts.toList.map (·.1)).zip vs) with
        | some cs => some (.agg ⟨cs⟩)
        | none => none) else none
      | _, _ => none)
    | _ => none)
  | none => none
theorem gv_bld {C : Ct} {ρ : Env} {N : Nat} {fm : Fm} {a : Act} {dst : Option Tmp} {ty : TypeId} {p : String} {af : Array Edge} {g : Option (Nat × Bool)} {t : TypeId} {parts : Array (Nat × Operand)} {r : Value} (h : Fr ρ N fm a)
    (hb : bldE C fm.t t parts = some r) : Gv C ρ a ⟨dst, .build t parts, ty, p, af, g⟩ r := by
  unfold bldE at hb
  cases ht : C.tt.get t with
  | none => rw [ht] at hb; cases hb
  | some ti =>
    rw [ht] at hb
    obtain ⟨kk, z, sz, by'⟩ := ti
    cases kk with
    | struct fs =>
      simp only at hb
      split at hb
      · rename_i ps vs h1 h2
        cases hc : cst 8 z with
        | false => rw [hc] at hb; cases hb
        | true =>
          rw [hc] at hb
          simp only [cond_true] at hb
          split at hb
          · rename_i cs hf
            cases hb
            have e1 := evEs_spec h h2
            have e2 := (conc_cells (ρ := ρ) (cst_conc hc)).1
            obtain ⟨cs', hcs, hf'⟩ := concs_fill e1 e2 hf
            refine Gv.of (d := 0) (u := .agg ⟨cs'⟩) (xs := parts.toList.map (·.2)) (conc_agg hcs) ?_
            exact p_build (X := C.X) (C.okL _ _ ht) (plcE_spec h1) (evs_map' (fun x hx => hx)) hf'
          · cases hb
      · cases hb
    | _ => cases hb

/-! ### cap, the data of a slice -/
def capE (C : Ct) (t : TypeId) : Value → Option Value
  | .slice _ _ c => match C.tt.get t with
    | some ti => (match ti.k with | .slice _ => bif Nat.ble CC c then none else some (.int .i64 c) | _ => none)
    | none => none
  | _ => none
theorem gv_cap {C : Ct} {ρ : Env} {N : Nat} {fm : Fm} {a : Act} {dst : Option Tmp} {ty : TypeId} {p : String} {af : Array Edge} {g : Option (Nat × Bool)} {t : TypeId} {x : Operand} {v r : Value} (h : Fr ρ N fm a) (hx : evE fm.t x = some v) (hb : capE C t v = some r) :
    Gv C ρ a ⟨dst, .call ⟨.builtin .cap, #[x], #[t]⟩, ty, p, af, g⟩ r := by
  obtain ⟨v', hv, he⟩ := evE_spec h hx
  unfold capE at hb
  split at hb
  · rename_i ad n c
    cases ht : C.tt.get t with
    | none => rw [ht] at hb; cases hb
    | some ti =>
      rw [ht] at hb
      have hti := C.okT _ _ ht
      obtain ⟨kk, z, sz, by'⟩ := ti
      cases kk with
      | slice e =>
        simp only at hb
        cases hcc : Nat.ble CC c with
        | true => rw [hcc] at hb; cases hb
        | false =>
          rw [hcc] at hb; cases hb
          have hu := tk_slice hti
          have : ∃ A, v' = .slice A n c := by
            cases ad with
            | none => simp [conc] at hv; exact ⟨_, hv.symm⟩
            | some ad =>
              obtain ⟨a', c', _, h2, _, rfl⟩ := conc_slice.1 hv
              simp [ccap, hcc] at h2; subst h2; exact ⟨_, rfl⟩
          obtain ⟨A, rfl⟩ := this
          refine ⟨_, by first | exact conc_int _ _ _ | exact conc_str _ _ | exact conc_bool _ _ | exact conc_sn _ _ _ | exact conc_pn _, fun w => ?_⟩
          simp only [execOp]
          simp [resolve, invoke, builtin, Builtin.cap_, he, run_underlying hu, goInt]
      | _ => cases hb
  · cases hb
def sdtE : Value → Option Value
  | .slice none _ _ => some (.pointer none)
  | .slice (some ad) n c => bif Nat.blt 0 n then some (.pointer (some ad)) else none
  | _ => none
theorem gv_sdt {C : Ct} {ρ : Env} {N : Nat} {fm : Fm} {a : Act} {dst : Option Tmp} {ty : TypeId} {p : String} {af : Array Edge} {g : Option (Nat × Bool)} {ts : Array TypeId} {x : Operand} {v r : Value} (h : Fr ρ N fm a) (hx : evE fm.t x = some v) (hb : sdtE v = some r) :
    Gv C ρ a ⟨dst, .call ⟨.builtin .unsafeSliceData, #[x], ts⟩, ty, p, af, g⟩ r := by
  obtain ⟨v', hv, he⟩ := evE_spec h hx
  unfold sdtE at hb
  split at hb
  · cases hb
    simp only [conc, Option.some.injEq] at hv; subst hv
    refine ⟨_, by first | exact conc_int _ _ _ | exact conc_str _ _ | exact conc_bool _ _ | exact conc_sn _ _ _ | exact conc_pn _, fun w => ?_⟩
    simp only [execOp]
    rename_i n c
    have e : Builtin.unsafeSliceData_ ts ty #[.slice none n c] = pure (.pointer none) := rfl
    simp [resolve, invoke, builtin, e, he]
  · rename_i ad n c
    cases hn : Nat.blt 0 n with
    | false => rw [hn] at hb; cases hb
    | true =>
      rw [hn] at hb; cases hb
      have hn' : 0 < n := Nat.lt_of_lt_of_le (Nat.lt_succ_self _) (Nat.le_of_ble_eq_true hn)
      obtain ⟨a', c', h1, h2, h3, rfl⟩ := conc_slice.1 hv
      refine ⟨.pointer (some a'), by simp [conc, h1], fun w => ?_⟩
      have : ¬ c' = 0 := by omega
      simp only [execOp]
      have e : Builtin.unsafeSliceData_ ts ty #[.slice (some a') n c'] = (if c' ≠ 0 then pure (.pointer (some a')) else do
        if (← viewAt a'.block).isSome then pure (.pointer (some a'))
        else pure (.pointer (some ⟨← newObj (.view a' (← elemOf ty)), 0, none⟩))) := rfl
      rw [if_pos this] at e
      simp [resolve, invoke, builtin, e, he]
  · cases hb

/-! ### All of them -/
def orE (x y : Option Value) : Option Value := match x with
  | some v => some v
  | none => y
theorem orE_some {x y : Option Value} {v : Value} (h : orE x y = some v) : x = some v ∨ y = some v := by
  cases x with
  | none => exact .inr h
  | some u => exact .inl h
def fstE (C : Ct) (t : Tr Value) : Op → Option Value
  | .move x => evE t x
  | .assign x => evE t x
  | .nilCheck x => (evE t x).bind nilE
  | .pick c x y => (evE t c).bind (pickE t x y)
  | .binOp op ty x y _ => (evE t x).bind fun v => (evE t y).bind fun w => binE C op ty x y v w
  | .unOp .not _ x => (evE t x).bind notE
  | .extract x i => (evE t x).bind fun v => extE v i
  | .convert s d x => (evE t x).bind (convE C s d)
  | .makeInterface ty x => (evE t x).bind (mkifE C ty)
  | .makeFunc fn xs ys => mkfnE t fn xs ys
  | .fieldAddr st x i => (evE t x).bind (fldE C st i)
  | .field st x i => (evE t x).bind (fieldE C st i)
  | .indexAddr ty x y => (evE t x).bind fun v => (evE t y).bind (ixaE C ty v)
  | .index ty x y => (evE t x).bind fun v => (evE t y).bind (indE C ty v)
  | .slice ty x lo hi none => (evE t x).bind fun v => (evO t lo).bind fun l => (evO t hi).bind fun h => slE C ty l h v
  | .typeAssert x _ asserted ok => (evE t x).bind (tasE C asserted ok)
  | .build ty parts => bldE C t ty parts
  | .call ⟨.builtin .len, ⟨[x]⟩, ⟨[ty]⟩⟩ => (evE t x).bind (lenE C ty)
  | .call ⟨.builtin .cap, ⟨[x]⟩, ⟨[ty]⟩⟩ => (evE t x).bind (capE C ty)
  | .call ⟨.builtin .unsafeSliceData, ⟨[x]⟩, _⟩ => (evE t x).bind sdtE
  | _ => none
/-- What o gives, where it asks for no memory. -/
def pvE (C : Ct) (t : Tr Value) (o : Oper) : Option Value := orE (fstE C t o.op) (fbE C t o)
theorem fstE_spec {C : Ct} {ρ : Env} {N : Nat} {fm : Fm} {a : Act} {dst : Option Tmp} {op : Op} {ty : TypeId} {p : String} {af : Array Edge} {g : Option (Nat × Bool)} {v : Value} (h : Fr ρ N fm a) (hv : fstE C fm.t op = some v) : Gv C ρ a ⟨dst, op, ty, p, af, g⟩ v := by
  unfold fstE at hv
  split at hv
  · exact gv_move h hv
  · exact gv_assign h hv
  · obtain ⟨u, h1, h2⟩ := Option.bind_eq_some_iff.1 hv; exact gv_nil h h1 h2
  · obtain ⟨u, h1, h2⟩ := Option.bind_eq_some_iff.1 hv; exact gv_pick h h1 h2
  · obtain ⟨u, h1, h2⟩ := Option.bind_eq_some_iff.1 hv
    obtain ⟨u', h3, h4⟩ := Option.bind_eq_some_iff.1 h2; exact gv_bin h h1 h3 h4
  · obtain ⟨u, h1, h2⟩ := Option.bind_eq_some_iff.1 hv; exact gv_not h h1 h2
  · obtain ⟨u, h1, h2⟩ := Option.bind_eq_some_iff.1 hv; exact gv_ext h h1 h2
  · obtain ⟨u, h1, h2⟩ := Option.bind_eq_some_iff.1 hv; exact gv_conv h h1 h2
  · obtain ⟨u, h1, h2⟩ := Option.bind_eq_some_iff.1 hv; exact gv_mkif h h1 h2
  · exact gv_mkfn h hv
  · obtain ⟨u, h1, h2⟩ := Option.bind_eq_some_iff.1 hv; exact gv_fld h h1 h2
  · obtain ⟨u, h1, h2⟩ := Option.bind_eq_some_iff.1 hv; exact gv_field h h1 h2
  · obtain ⟨u, h1, h2⟩ := Option.bind_eq_some_iff.1 hv
    obtain ⟨u', h3, h4⟩ := Option.bind_eq_some_iff.1 h2; exact gv_ixa h h1 h3 h4
  · obtain ⟨u, h1, h2⟩ := Option.bind_eq_some_iff.1 hv
    obtain ⟨u', h3, h4⟩ := Option.bind_eq_some_iff.1 h2; exact gv_ind h h1 h3 h4
  · obtain ⟨u, h1, h2⟩ := Option.bind_eq_some_iff.1 hv
    obtain ⟨l, h3, h4⟩ := Option.bind_eq_some_iff.1 h2
    obtain ⟨m, h5, h6⟩ := Option.bind_eq_some_iff.1 h4; exact gv_slice h h1 h3 h5 h6
  · obtain ⟨u, h1, h2⟩ := Option.bind_eq_some_iff.1 hv; exact gv_tas h h1 h2
  · exact gv_bld h hv
  · obtain ⟨u, h1, h2⟩ := Option.bind_eq_some_iff.1 hv; exact gv_len h h1 h2
  · obtain ⟨u, h1, h2⟩ := Option.bind_eq_some_iff.1 hv; exact gv_cap h h1 h2
  · obtain ⟨u, h1, h2⟩ := Option.bind_eq_some_iff.1 hv; exact gv_sdt h h1 h2
  · cases hv
theorem pvE_spec {C : Ct} {ρ : Env} {N : Nat} {fm : Fm} {a : Act} {o : Oper} {v : Value} (h : Fr ρ N fm a) (hv : pvE C fm.t o = some v) : Gv C ρ a o v := by
  rcases orE_some hv with h1 | h1
  · obtain ⟨dst, op, ty, p, af, g⟩ := o; exact fstE_spec h h1
  · exact fbE_spec h h1
end Go.Ev
