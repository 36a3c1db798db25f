/-
  Memory: copies, bytes and strings, pointers seen as others.
-/
import Derived.Test.YthiehhglnaiohaaGreatDoorE9
import Derived.Laws.IdiomStrings
import Derived.Lib.Builder
import Derived.Lib.UnsafeStr
import Derived.Lib.Bytealg
import Derived.Laws.IdiomStrings
namespace Go.Ev
open Go.Wk
set_option linter.unusedVariables false
set_option linter.unusedSimpArgs false

section
variable {C : Ct} {w0 : World} {D : Nat → Prop} {ρ : Env} {s s' : St} {w : World} {N : Nat} {fm : Fm} {a : Act} {dst : Option Tmp} {ty : TypeId} {p : String} {af : Array Edge} {g : Option (Nat × Bool)}

/-! ### copy -/
def srcE (C : Ct) (s : St) (sz n : Nat) : Value → Option (Nat × List Value)
  | .slice none m _ => bif Nat.beq m 0 then some (0, []) else none
  | .slice (some ⟨b, o, none⟩) m _ => (match readC C s b o (Nat.min m n * sz) with
    | some cs => some (Nat.min m n, cs)
    | none => none)
  | .string q => bif Nat.beq sz 1 then some (Nat.min q.data.toList.length n, (q.data.toList.take (Nat.min q.data.toList.length n)).map fun b => .int .u8 b.toNat) else none
  | _ => none
theorem srcE_spec (H : Sr C w0 D ρ s w) {sz n k : Nat} {x x' : Value} {cs : List Value} (hx : conc ρ x = some x') (h : srcE C s sz n x = some (k, cs)) :
    ∃ m cs', (Builtin.lenOf x').run C.P w = .ok m w ∧ Nat.min m n = k ∧ concs ρ cs = some cs' ∧ cs.length = k * sz ∧ (Builtin.firstCells sz k x').run C.P w = .ok ⟨cs'⟩ w := by
  unfold srcE at h
  split at h
  · rename_i m' c
    cases hm : Nat.beq m' 0 with
    | false => rw [hm] at h; cases h
    | true =>
      rw [hm, cond_true] at h; cases h
      obtain rfl := Nat.eq_of_beq_eq_true hm
      simp only [conc, Option.some.injEq] at hx; subst hx
      exact ⟨0, [], rfl, Nat.zero_min n, concs_nil ρ, by simp, by simp [Builtin.firstCells]⟩
  · rename_i b o m' c
    split at h
    · rename_i cs0 hr
      cases h
      obtain ⟨a', c', h1, h2, h3, rfl⟩ := conc_slice.1 hx
      simp only [cA, Option.map_eq_some_iff] at h1
      obtain ⟨b', hb', rfl⟩ := h1
      obtain ⟨cs', g1, g2, g3, g4⟩ := readC_spec H hb' hr
      exact ⟨m', cs', rfl, rfl, g1, g2, run_firstCells_some (P := C.P) w sz _ ⟨b', o, none⟩ m' c' cs' g3 (fun j v hj => by rw [addr_add]; exact g4 j v hj)⟩
    · cases h
  · rename_i q
    cases hs : Nat.beq sz 1 with
    | false => rw [hs] at h; cases h
    | true =>
      rw [hs, cond_true] at h; cases h
      obtain rfl := Nat.eq_of_beq_eq_true hs
      simp only [conc, Option.some.injEq] at hx; subst hx
      have hsz : q.size = q.data.toList.length := by simp
      refine ⟨q.size, _, rfl, by rw [hsz], concs_bytes _, ?_, ?_⟩
      · rw [List.length_map, List.length_take, Nat.mul_one]
        exact Nat.min_eq_left (Nat.min_le_left _ _)
      · have h1 : (Builtin.firstCells 1 (Nat.min q.data.toList.length n) (.string q)) = pure ((q.extract 0 (Nat.min q.data.toList.length n)).data.map fun b => .int .u8 b.toNat) := rfl
        rw [h1]
        have e : (q.extract 0 (Nat.min q.data.toList.length n)).data.map (fun b => Value.int .u8 b.toNat) = ⟨(q.data.toList.take (Nat.min q.data.toList.length n)).map fun b => .int .u8 b.toNat⟩ := by
          apply Array.ext'
          simp
        rw [e]; rfl
  · cases h
def cpyE (C : Ct) (s : St) (t : TypeId) : Value → Value → Option (Value × St)
  | .slice base n c, x => (match C.tt.get t with
    | some ti => (match ti.k with
      | .slice e => (match C.tt.get e with
        | some te => (match srcE C s te.sz n x with
          | some (k, cs) => (match base with
            | none => bif Nat.beq k 0 then some (.int .i64 0, s) else none
            | some ⟨b, o, none⟩ => bif Nat.beq (k * te.sz) 0 then some (.int .i64 k, s) else (match writeC s b o cs with
              | some s' => some (.int .i64 k, s')
              | none => none)
            | _ => none)
          | none => none)
        | none => none)
      | _ => none)
    | none => none)
  | _, _ => none
theorem vm_cpy {t u : TypeId} {x y : Operand} {v q r : Value} (h : Fr ρ N fm a) (H : Sr C w0 D ρ s w) (hx : evE fm.t x = some v) (hy : evE fm.t y = some q) (hb : cpyE C s t v q = some (r, s')) :
    Vm C w0 D ρ w a ⟨dst, .call ⟨.builtin .copy, #[x, y], #[t, u]⟩, ty, p, af, g⟩ r s' := by
  obtain ⟨v', hv, he⟩ := evE_spec h hx
  obtain ⟨q', hq, he'⟩ := evE_spec h hy
  have hop : ∀ {u' : Value} {w' : World}, (Builtin.copy_ #[t, u] ty #[v', q']).run C.P w = .ok u' w' → (execOp a.eval ⟨dst, .call ⟨.builtin .copy, #[x, y], #[t, u]⟩, ty, p, af, g⟩).run C.P w = .ok (.value u') w' := fun hr => by
    simp only [execOp]
    simp [resolve, invoke, builtin, he, he', hr]
  unfold cpyE at hb
  split at hb
  · rename_i base n c
    cases ht : C.tt.get t with
    | none => rw [ht] at hb; cases hb
    | some ti =>
      rw [ht] at hb
      have hti := C.okT _ _ ht
      obtain ⟨kk, z0, sz0, by0⟩ := ti
      cases kk with
      | slice e =>
        simp only at hb
        cases hte : C.tt.get e with
        | none => rw [hte] at hb; cases hb
        | some te =>
          rw [hte] at hb
          simp only at hb
          split at hb
          · rename_i k cs hs
            obtain ⟨m, cs', g1, g2, g3, g4, g5⟩ := srcE_spec H hq hs
            split at hb
            · simp only [conc, Option.some.injEq] at hv; subst hv
              cases hk : Nat.beq k 0 with
              | false => rw [hk] at hb; cases hb
              | true =>
                rw [hk, cond_true] at hb; cases hb
                obtain rfl := Nat.eq_of_beq_eq_true hk
                refine ⟨[], .int .i64 0, w, hop ?_, conc_int _ _ _, by rw [List.append_nil]; exact H⟩
                rw [← g2] at g5
                simp [Builtin.copy_, run_underlying (tk_slice hti), Wk.run_sizeOf (C.okT _ _ hte), g1, g5, goInt]
                have h7 : min m n = 0 := g2
                omega
            · rename_i b o
              obtain ⟨a', c', h1, h2, h3, rfl⟩ := conc_slice.1 hv
              simp only [cA, Option.map_eq_some_iff] at h1
              obtain ⟨b', hb', rfl⟩ := h1
              cases hk : Nat.beq (k * te.sz) 0 with
              | true =>
                rw [hk, cond_true] at hb; cases hb
                have hl0 : cs' = [] := by
                  apply List.eq_nil_of_length_eq_zero
                  rw [concs_len g3, g4]; exact Nat.eq_of_beq_eq_true hk
                subst hl0
                refine ⟨[], .int .i64 k, w, hop ?_, conc_int _ _ _, by rw [List.append_nil]; exact H⟩
                subst g2
                simp [Builtin.copy_, run_underlying (tk_slice hti), Wk.run_sizeOf (C.okT _ _ hte), g1, g5, goInt, storeCells]
              | false =>
                rw [hk, cond_false] at hb
                split at hb
                · rename_i s1 hw
                  cases hb
                  obtain ⟨w', hst, H'⟩ := writeC_spec (P := C.P) H hb' g3 hw
                  refine ⟨[], .int .i64 k, w', hop ?_, conc_int _ _ _, by rw [List.append_nil]; exact H'⟩
                  subst g2
                  simp [Builtin.copy_, run_underlying (tk_slice hti), Wk.run_sizeOf (C.okT _ _ hte), g1, g5, goInt, hst]
                · cases hb
            · cases hb
          · cases hb
      | _ => cases hb
  · cases hb

/-! ### Bytes as a string -/
def byt : List Value → Option (List UInt8)
  | [] => some []
  | .int .u8 n :: r => bif decide (0 ≤ n) && decide (n < 256) then (match byt r with
    | some l => some (UInt8.ofNat n.toNat :: l)
    | none => none) else none
  | _ :: _ => none
theorem byt_spec : ∀ {cs : List Value} {l : List UInt8}, byt cs = some l → cs = l.map fun b => .int .u8 b.toNat
  | [], l, h => by simp only [byt] at h; cases h; rfl
  | c :: r, l, h => by
    unfold byt at h
    split at h
    · rename_i hh; cases hh
    · rename_i n r' heq
      cases heq
      cases hq : (decide (0 ≤ n) && decide (n < 256)) with
      | false => rw [hq] at h; cases h
      | true =>
        rw [hq, cond_true] at h
        simp only [Bool.and_eq_true, decide_eq_true_eq] at hq
        split at h
        · rename_i l' h2
          cases h
          rw [List.map_cons, ← byt_spec h2]
          congr 2
          have h3 : n.toNat < 256 := by omega
          rw [UInt8.toNat_ofNat']
          have : n.toNat % 2 ^ 8 = n.toNat := Nat.mod_eq_of_lt h3
          rw [this]
          exact (Int.toNat_of_nonneg hq.1).symm
        · cases h
    · cases h
def isByteSl (C : Ct) (src : TypeId) : Bool := match C.tt.get src with
  | some si => (match si.k with
    | .slice e => (match C.tt.get e with
      | some te => (match te.k with | .int .u8 => true | _ => false)
      | none => false)
    | _ => false)
  | none => false
def isStr (C : Ct) (t : TypeId) : Bool := match C.tt.get t with
  | some si => (match si.k with | .string => true | _ => false)
  | none => false
theorem isByteSl_spec {src : TypeId} (h : isByteSl C src = true) : ∃ e, C.P.underlying src = some (.slice e) ∧ C.P.underlying e = some (.int .u8) := by
  unfold isByteSl at h
  split at h
  · rename_i si hs
    obtain ⟨k, z, sz, by'⟩ := si
    cases k with
    | slice e =>
      simp only at h
      split at h
      · rename_i te hte
        obtain ⟨k2, z2, sz2, by2⟩ := te
        cases k2 with
        | int ik => cases ik <;> first | exact ⟨e, tk_slice (C.okT _ _ hs), tk_int (C.okT _ _ hte)⟩ | cases h
        | _ => cases h
      · cases h
    | _ => cases h
  · cases h
theorem isStr_spec {t : TypeId} (h : isStr C t = true) : C.P.underlying t = some .string := by
  unfold isStr at h
  split at h
  · rename_i si hs
    obtain ⟨k, z, sz, by'⟩ := si
    cases k <;> first | exact tk_string (C.okT _ _ hs) | cases h
  · cases h
def bstE (C : Ct) (s : St) (src dst : TypeId) : Value → Option Value
  | .slice none n c => bif isByteSl C src && isStr C dst then some (.string ⟨⟨[]⟩⟩) else none
  | .slice (some ⟨b, o, none⟩) n c => bif isByteSl C src && isStr C dst then (match readC C s b o n with
    | some cs => (match byt cs with
      | some l => some (.string ⟨⟨l⟩⟩)
      | none => none)
    | none => none) else none
  | _ => none
theorem concs_byt {cs cs' : List Value} {l : List UInt8} (h : byt cs = some l) (hc : concs ρ cs = some cs') : cs' = l.map fun b => .int .u8 b.toNat := by
  rw [byt_spec h, concs_bytes] at hc
  exact (Option.some.inj hc).symm
theorem vm_bst {src dst' : TypeId} {x : Operand} {v r : Value} (h : Fr ρ N fm a) (H : Sr C w0 D ρ s w) (hx : evE fm.t x = some v) (hb : bstE C s src dst' v = some r) : Vm C w0 D ρ w a ⟨dst, .convert src dst' x, ty, p, af, g⟩ r s := by
  obtain ⟨v', hv, he⟩ := evE_spec h hx
  have hop : ∀ {u' : Value}, (convert src dst' v').run C.P w = .ok u' w → (execOp a.eval ⟨dst, .convert src dst' x, ty, p, af, g⟩).run C.P w = .ok (.value u') w := fun hr => by
    simp only [execOp, he]
    rw [Sem.run_bind, hr]; rfl
  unfold bstE at hb
  split at hb
  · rename_i n c
    cases hq : (isByteSl C src && isStr C dst') with
    | false => rw [hq] at hb; cases hb
    | true =>
      rw [hq, cond_true] at hb; cases hb
      simp only [Bool.and_eq_true] at hq
      obtain ⟨e, h1, h2⟩ := isByteSl_spec hq.1
      have h3 := isStr_spec hq.2
      simp only [conc, Option.some.injEq] at hv; subst hv
      refine ⟨[], _, w, hop ?_, conc_str _ _, by rw [List.append_nil]; exact H⟩
      rw [run_convert_bytes_string w src dst' e none n c h1 h2 h3]
      rfl
  · rename_i b o n c
    cases hq : (isByteSl C src && isStr C dst') with
    | false => rw [hq] at hb; cases hb
    | true =>
      rw [hq, cond_true] at hb
      simp only [Bool.and_eq_true] at hq
      obtain ⟨e, h1, h2⟩ := isByteSl_spec hq.1
      have h3 := isStr_spec hq.2
      split at hb
      · rename_i cs hr
        split at hb
        · rename_i l hl
          cases hb
          obtain ⟨a', c', ha, hc, hn, rfl⟩ := conc_slice.1 hv
          simp only [cA, Option.map_eq_some_iff] at ha
          obtain ⟨b', hb', rfl⟩ := ha
          obtain ⟨cs', g1, g2, g3, g4⟩ := readC_spec H hb' hr
          have e1 := concs_byt hl g1
          subst e1
          refine ⟨[], _, w, hop ?_, conc_str _ _, by rw [List.append_nil]; exact H⟩
          have hll : l.length = n := by simpa using g3
          subst hll
          exact run_convert_bytes_back w src dst' e ⟨b', o, none⟩ c' l h1 h2 h3 (fun j hj => by
            rw [addr_add]
            exact g4 j _ (by rw [List.getElem?_map, List.getElem?_eq_getElem hj]; rfl))
        · cases hb
      · cases hb
  · cases hb

/-! ### Strings laid over a row, pointers without a type and back, pointers held against themselves -/
theorem shape_own (H : Sr C w0 D ρ s w) {k : Nat} {l : Array Value} {e : TypeId} {fz : Nat × Nat} {L : Loc} (hk : s.h.get k = some (.cells l e fz)) (hL : ρ[k]? = some L) :
    ∃ l' e', concs ρ l.toList = some l' ∧ w.heap[L.ad]? = some (.cells ⟨l' ++ L.sp⟩ e' (fzc L fz)) ∧ w.shape? L.ad = some (e', (l' ++ L.sp).length) ∧ ((Nat.ble BB e = true ∧ e' = e - BB) ∨ (Nat.ble BB e = false ∧ e' = e ∧ L.sp = [])) := by
  obtain ⟨L2, o', g1, g2, g3⟩ := H.holds _ _ hk
  rw [hL] at g1; cases g1
  obtain ⟨l', e', h1, rfl, h3⟩ := concO_cells g2
  refine ⟨l', e', h1, g3, ?_, ?_⟩
  · unfold World.shape?; rw [g3]; rfl
  · rcases h3 with ⟨h4, h5, _⟩ | h4
    · exact .inl ⟨h4, h5⟩
    · exact .inr h4

def ustE.isBytePt (C : Ct) (pt e : TypeId) : Bool := match C.tt.get pt, C.tt.get e with
  | some pi, some te => (match pi.k with | .pointer e' => Nat.beq e' e | _ => false) && Nat.beq te.sz 1
  | _, _ => false
def ustE (C : Ct) (s : St) (pt : TypeId) : Value → Value → Option (Value × St)
  | .pointer q, .int .i64 n => bif decide (n = 0) then some (.string ⟨⟨[]⟩⟩, s) else (match q with
    | some ⟨b, 0, none⟩ => bif Nat.ble BB b && decide (0 ≤ n) && decide (n < 4294967296) then (match s.h.get (b - BB) with
      | some (.cells l e (0, 0)) => bif ustE.isBytePt C pt (bif Nat.ble BB e then e - BB else e) then ((takeN l.toList 0 n.toNat).bind fun cs => (byt cs).bind fun bs => (s.upd (b - BB) (some (.cells l e (0, n.toNat)))).bind fun s' => some (.string ⟨⟨bs⟩⟩, s')) else none
      | _ => none) else none
    | _ => none)
  | _, _ => none
theorem isBytePt_spec {pt e : TypeId} (h : ustE.isBytePt C pt e = true) : C.P.underlying pt = some (.pointer e) ∧ C.P.cellsOf e = 1 := by
  unfold ustE.isBytePt at h
  split at h
  · rename_i pi te hp he
    simp only [Bool.and_eq_true] at h
    obtain ⟨h1, h2⟩ := h
    obtain ⟨k, z, sz, by'⟩ := pi
    obtain ⟨d, i, hd, hi, hk, hz, hs, hb⟩ := tiOf_spec (C.okT _ _ he)
    cases k with
    | pointer e' =>
      simp only at h1
      obtain rfl := Nat.eq_of_beq_eq_true h1
      refine ⟨tk_pointer (C.okT _ _ hp), ?_⟩
      unfold Program.cellsOf
      rw [hi]
      simp [hs, Nat.eq_of_beq_eq_true h2]
    | _ => cases h1
  · cases h
theorem vm_ust {pt it : TypeId} {x y : Operand} {v q r : Value} (h : Fr ρ N fm a) (H : Sr C w0 D ρ s w) (hx : evE fm.t x = some v) (hy : evE fm.t y = some q) (hb : ustE C s pt v q = some (r, s')) :
    Vm C w0 D ρ w a ⟨dst, .call ⟨.builtin .unsafeString, #[x, y], #[pt, it]⟩, ty, p, af, g⟩ r s' := by
  obtain ⟨v', hv, he⟩ := evE_spec h hx
  obtain ⟨q', hq, he'⟩ := evE_spec h hy
  have hop : ∀ {u' : Value} {w' : World}, (Builtin.unsafeString_ #[pt, it] ty #[v', q']).run C.P w = .ok u' w' → (execOp a.eval ⟨dst, .call ⟨.builtin .unsafeString, #[x, y], #[pt, it]⟩, ty, p, af, g⟩).run C.P w = .ok (.value u') w' := fun hr => by
    simp only [execOp]
    simp [resolve, invoke, builtin, he, he', hr]
  unfold ustE at hb
  split at hb
  · rename_i q0 n
    simp only [conc, Option.some.injEq] at hq; subst hq
    cases hn0 : decide (n = 0) with
    | true =>
      rw [hn0, cond_true] at hb; cases hb
      simp only [decide_eq_true_eq] at hn0
      subst hn0
      have : ∃ q1, v' = .pointer q1 := by
        cases q0 with
        | none => simp [conc] at hv; exact ⟨_, hv.symm⟩
        | some q0 => simp only [conc, Option.map_eq_some_iff] at hv; obtain ⟨b, _, rfl⟩ := hv; exact ⟨_, rfl⟩
      obtain ⟨q1, rfl⟩ := this
      refine ⟨[], _, w, hop (Go.Lib.run_unsafeString_none w pt it ty q1), conc_str _ _, by rw [List.append_nil]; exact H⟩
    | false =>
      rw [hn0, cond_false] at hb
      simp only [decide_eq_false_iff_not] at hn0
      split at hb
      · rename_i b
        simp only [conc, cA, Option.map_eq_some_iff] at hv
        obtain ⟨_, ⟨b', hb', rfl⟩, rfl⟩ := hv
        cases hq : (Nat.ble BB b && decide (0 ≤ n) && decide (n < 4294967296)) with
        | false => rw [hq] at hb; cases hb
        | true =>
          rw [hq, cond_true] at hb
          simp only [Bool.and_eq_true, decide_eq_true_eq] at hq
          obtain ⟨⟨hbb, hn1⟩, hn2⟩ := hq
          obtain ⟨L, hL, rfl⟩ := cad_own hbb hb'
          generalize b - BB = k at hb hL
          split at hb
          · rename_i l e hk
            obtain ⟨l', e', h1, h2, h3, h4⟩ := shape_own H hk hL
            rw [fzc_z] at h2
            have hee : (bif Nat.ble BB e then e - BB else e) = e' := by
              rcases h4 with ⟨h5, h6⟩ | ⟨h5, h6, _⟩
              · rw [h5, cond_true]; exact h6.symm
              · rw [h5, cond_false]; exact h6.symm
            rw [hee] at hb
            cases hbp : ustE.isBytePt C pt e' with
            | false => rw [hbp] at hb; cases hb
            | true =>
              rw [hbp, cond_true] at hb
              obtain ⟨h5, h6⟩ := isBytePt_spec hbp
              obtain ⟨cs, hcs, hb⟩ := Option.bind_eq_some_iff.1 hb
              obtain ⟨bs, hbs, hb⟩ := Option.bind_eq_some_iff.1 hb
              obtain ⟨s1, hs1, hb⟩ := Option.bind_eq_some_iff.1 hb
              cases hb
              obtain ⟨cs', g1, g2, g3, g4⟩ := takeN_spec h1 hcs
              have e1 := concs_byt hbs g1
              subst e1
              have hbl : bs.length = n.toNat := by simpa using g3
              have hne : bs ≠ [] := fun hnil => by rw [hnil] at hbl; simp at hbl; omega
              have hfit : bs.length ≤ (l' ++ L.sp).length := by
                have := g4 L.sp (bs.length - 1) (.int .u8 (bs[bs.length - 1]'(by have := List.length_pos_iff.2 hne; omega)).toNat) (by rw [List.getElem?_map, List.getElem?_eq_getElem]; rfl)
                have := (List.getElem?_eq_some_iff.1 this).1
                omega
              have hr := Go.Lib.run_unsafeString_row (P := C.P) w pt it ty e' h5 h6 L.ad _ h3 bs hne hfit (by omega) (fun j x hj => by
                rw [addr_add]
                simp only [World.cell?, h2]
                have := g4 L.sp j (.int .u8 x.toNat) (by rw [List.getElem?_map, hj]; rfl)
                simpa using this)
              have hnn : (bs.length : Int) = n := by rw [hbl]; exact Int.toNat_of_nonneg hn1
              rw [hnn] at hr
              refine ⟨[], _, _, hop hr, conc_str _ _, ?_⟩
              rw [List.append_nil]
              obtain ⟨L2, o', q1, q2, q3⟩ := H.holds _ _ hk
              rw [hL] at q1; cases q1
              obtain ⟨e'', hput, l'', hl'', ho⟩ := concO_put (fz' := (0, n.toNat)) (m := l.toList) (m' := l') q2 h1 rfl
              rw [fzc_z] at hput ho
              rw [h2] at q3
              have q4 := Option.some.inj q3
              rw [ho] at q4
              have he2 : e' = e'' := by injection q4
              subst he2
              have hfr : ∀ z, (w.freeze ⟨L.ad, 0, none⟩ bs.length).heap[z]? = if z = L.ad then some (.cells ⟨l' ++ L.sp⟩ e' (0, n.toNat)) else w.heap[z]? := fun z => by
                unfold World.freeze
                rw [if_neg (by have := List.length_pos_iff.2 hne; omega)]
                simp only [Array.getElem?_modify]
                by_cases hz : L.ad = z
                · subst hz
                  rw [if_pos rfl, if_pos rfl, h2]
                  simp [hbl]
                · rw [if_neg hz, if_neg (Ne.symm hz)]
              refine H.write hk hL hput hs1 (by rw [hfr, if_pos rfl]) (fun z _ hz => by rw [hfr, if_neg hz]) ?_ ?_ ?_ ?_
              · unfold World.freeze; split <;> simp
              · unfold World.freeze; split <;> rfl
              · unfold World.freeze; split <;> rfl
              · unfold World.freeze; split <;> rfl
          · cases hb
      · cases hb
  · cases hb

/-- *T to a pointer without a type and back: at a row of one's own that does not grow. -/
def uptE (C : Ct) (s : St) (src dst : TypeId) : Value → Option Value
  | .pointer (some ⟨b, o, none⟩) => bif Nat.ble BB b then (match s.h.get (b - BB) with
    | some (.cells l e _) => bif Nat.ble BB e then none else (match C.tt.get src, C.tt.get dst with
      | some si, some di => (match si.k, di.k with
        | .pointer t, .other => (match C.P.underlying dst, C.tt.get t with
          | some .unsafePointer, some ti => bif Nat.beq ti.sz 0 then none else bif Nat.blt o l.toList.length then some (.pointer (some ⟨b, o, none⟩)) else none
          | _, _ => none)
        | .other, .pointer u => (match C.P.underlying src, C.tt.get u with
          | some .unsafePointer, some _ => bif liesAt C.P C.P.depth e (l.toList.length / C.P.cellsOf e) o u 1 then some (.pointer (some ⟨b, o, none⟩)) else none
          | _, _ => none)
        | _, _ => none)
      | _, _ => none)
    | _ => none) else none
  | _ => none
theorem vm_upt {src dst' : TypeId} {x : Operand} {v r : Value} (h : Fr ρ N fm a) (H : Sr C w0 D ρ s w) (hx : evE fm.t x = some v) (hb : uptE C s src dst' v = some r) : Vm C w0 D ρ w a ⟨dst, .convert src dst' x, ty, p, af, g⟩ r s := by
  obtain ⟨v', hv, he⟩ := evE_spec h hx
  have hop : ∀ {u' : Value}, (convert src dst' v').run C.P w = .ok u' w → (execOp a.eval ⟨dst, .convert src dst' x, ty, p, af, g⟩).run C.P w = .ok (.value u') w := fun hr => by
    simp only [execOp, he]
    rw [Sem.run_bind, hr]; rfl
  unfold uptE at hb
  split at hb
  · rename_i b o
    have hv0 := hv
    simp only [conc, cA, Option.map_eq_some_iff] at hv
    obtain ⟨_, ⟨b', hb', rfl⟩, rfl⟩ := hv
    cases hbb : Nat.ble BB b with
    | false => rw [hbb] at hb; cases hb
    | true =>
      rw [hbb, cond_true] at hb
      obtain ⟨L, hL, rfl⟩ := cad_own hbb hb'
      generalize b - BB = k at hb hL
      split at hb
      · rename_i l e fz hk
        cases hee : Nat.ble BB e with
        | true => rw [hee] at hb; cases hb
        | false =>
          rw [hee, cond_false] at hb
          obtain ⟨l', e', h1, h2, h3, h4⟩ := shape_own H hk hL
          rcases h4 with ⟨h5, _⟩ | ⟨_, rfl, h6⟩
          · rw [hee] at h5; cases h5
          · rw [h6, List.append_nil] at h3
            have hll : l'.length = l.toList.length := concs_len h1
            split at hb
            · rename_i si di hs hd
              obtain ⟨k1, z1, sz1, by1⟩ := si
              obtain ⟨k2, z2, sz2, by2⟩ := di
              simp only at hb
              split at hb
              · rename_i t
                split at hb
                · rename_i ti hu ht
                  cases hz : Nat.beq ti.sz 0 with
                  | true => rw [hz] at hb; cases hb
                  | false =>
                    rw [hz, cond_false] at hb
                    cases ho : Nat.blt o l.toList.length with
                    | false => rw [ho] at hb; cases hb
                    | true =>
                      rw [ho, cond_true] at hb; cases hb
                      have ho' : o < l.toList.length := Nat.lt_of_lt_of_le (Nat.lt_succ_self _) (Nat.le_of_ble_eq_true ho)
                      obtain ⟨d, i, _, hi, _, _, hsz, _⟩ := tiOf_spec (C.okT _ _ ht)
                      refine ⟨[], _, w, hop (Go.Lib.run_to_unsafe w ⟨L.ad, o, none⟩ (tk_pointer (C.okT _ _ hs)) hu hi (by rw [hsz]; exact Nat.ne_of_beq_eq_false hz) h3 (by rw [hll]; exact ho')), by rw [List.append_nil]; exact hv0, by rw [List.append_nil]; exact H⟩
                · cases hb
              · rename_i u
                split at hb
                · rename_i ti hu ht
                  cases hz : liesAt C.P C.P.depth e' (l.toList.length / C.P.cellsOf e') o u 1 with
                  | false => rw [hz] at hb; cases hb
                  | true =>
                    rw [hz, cond_true] at hb; cases hb
                    obtain ⟨d, i, _, hi, _, _, hsz, _⟩ := tiOf_spec (C.okT _ _ ht)
                    refine ⟨[], _, w, hop (Go.Lib.run_from_unsafe w ⟨L.ad, o, none⟩ hu (tk_pointer (C.okT _ _ hd)) hi h3 (by rw [hll]; exact hz)), by rw [List.append_nil]; exact hv0, by rw [List.append_nil]; exact H⟩
                · cases hb
              · cases hb
            · cases hb
      · cases hb
  · cases hb

/-- A string's bytes, anew. -/
def sbtE (C : Ct) (s : St) (src dst : TypeId) : Value → Option (Value × St)
  | .string q => bif isStr C src && isByteSl C dst then (match C.tt.get dst with
    | some di => (match di.k with
      | .slice e => bif Nat.ble BB e then none else (match C.tt.get e with
        | some te => bif Nat.beq te.sz 1 then (match s.new (.cells ⟨q.data.toList.map fun b => .int .u8 b.toNat⟩ (e + BB) (BB, 0)) with
          | some s' => some (.slice (some ⟨BB + s.n, 0, none⟩) q.data.toList.length CC, s')
          | none => none) else none
        | none => none)
      | _ => none)
    | none => none) else none
  | _ => none
theorem vm_sbt {src dst' : TypeId} {x : Operand} {v r : Value} (h : Fr ρ N fm a) (H : Sr C w0 D ρ s w) (hx : evE fm.t x = some v) (hb : sbtE C s src dst' v = some (r, s')) : Vm C w0 D ρ w a ⟨dst, .convert src dst' x, ty, p, af, g⟩ r s' := by
  obtain ⟨v', hv, he⟩ := evE_spec h hx
  have hop : ∀ {u' : Value} {w' : World}, (convert src dst' v').run C.P w = .ok u' w' → (execOp a.eval ⟨dst, .convert src dst' x, ty, p, af, g⟩).run C.P w = .ok (.value u') w' := fun hr => by
    simp only [execOp, he]
    rw [Sem.run_bind, hr]; rfl
  unfold sbtE at hb
  split at hb
  · rename_i q
    cases hq : (isStr C src && isByteSl C dst') with
    | false => rw [hq] at hb; cases hb
    | true =>
      rw [hq, cond_true] at hb
      simp only [Bool.and_eq_true] at hq
      have h1 := isStr_spec hq.1
      obtain ⟨e, h2, h3⟩ := isByteSl_spec hq.2
      split at hb
      · rename_i di hdi
        have hti := C.okT _ _ hdi
        obtain ⟨kk, z0, sz0, by0⟩ := di
        cases kk with
        | slice e2 =>
          have hu := tk_slice hti
          rw [h2] at hu
          cases hu
          simp only at hb
          cases hbe : Nat.ble BB e with
          | true => rw [hbe] at hb; cases hb
          | false =>
            rw [hbe, cond_false] at hb
            split at hb
            · rename_i te hte
              cases hsz : Nat.beq te.sz 1 with
              | false => rw [hsz] at hb; cases hb
              | true =>
                rw [hsz, cond_true] at hb
                have hsz' := Nat.eq_of_beq_eq_true hsz
                split at hb
                · rename_i s1 hs
                  cases hb
                  simp only [conc, Option.some.injEq] at hv; subst hv
                  have hr := run_bytes_of_string (P := C.P) w src dst' e q h1 h2 h3
                  have hge := grownCap_ge w q.size 0 e
                  have hqs : q.size = q.data.toList.length := by rw [Array.length_toList]; rfl
                  generalize hcap : grownCap w q.size 0 e = cap at hr hge
                  have hrow : bytesRow q cap = ⟨(q.data.toList.map fun b => Value.int .u8 b.toNat) ++ List.replicate (cap - q.size) (.int .u8 0)⟩ := by
                    apply Array.ext'; simp [bytesRow]
                  have hlen : ((q.data.toList.map fun b : UInt8 => Value.int .u8 b.toNat) ++ List.replicate (cap - q.size) (Value.int .u8 0)).length = cap := by
                    rw [List.length_append, List.length_map, List.length_replicate]; omega
                  have hsize : (bytesRow q cap).size = cap := by rw [hrow]; exact hlen
                  rw [hsize, hrow] at hr
                  refine ⟨[⟨w.heap.size, cap, List.replicate (cap - q.size) (.int .u8 0)⟩], _, _, hop hr, conc_sl ?_ ?_ hge, ?_⟩
                  · unfold cad
                    rw [BB_ble, BB_sub, ← H.len]; simp
                  · rw [ccap_CC, ← H.len]; simp
                  · refine Sr.alloc (w := w.drew) (s := s) (o := Obj.cells ⟨q.data.toList.map fun b : UInt8 => Value.int .u8 b.toNat⟩ (e + BB) (BB, 0)) (H.drew) ?_ hs
                    have hg := concO_grow (C := C) (ρ := ρ ++ [⟨w.heap.size, cap, List.replicate (cap - q.size) (.int .u8 0)⟩]) (L := ⟨w.heap.size, cap, List.replicate (cap - q.size) (.int .u8 0)⟩) (fz := (BB, 0)) (concs_bytes q.data.toList) hte (by rw [hsz', Nat.mul_one]; exact hlen)
                    have hfz : fzc ⟨w.heap.size, cap, List.replicate (cap - q.size) (.int .u8 0)⟩ (BB, 0) = (cap, cap + 1) := by
                      unfold fzc
                      have : Nat.ble BB BB = true := by generalize BB = q; exact Nat.ble_eq_true_of_le (Nat.le_refl _)
                      rw [this]; rfl
                    rw [hfz] at hg
                    exact hg
                · cases hb
            · cases hb
        | _ => cases hb
      · cases hb
  · cases hb
/-- A pointer held against itself. -/
def samE (C : Ct) (op : BinOp) (t : TypeId) : Value → Value → Option Value
  | .pointer (some ⟨b, o, none⟩), .pointer (some ⟨b', o', none⟩) => bif Nat.beq b b' && Nat.beq o o' then (match C.tt.get t with
    | some ti => (match ti.k with
      | .pointer e => (match C.tt.get e, op with
        | some _, .neq => some (.bool false)
        | _, _ => none)
      | _ => none)
    | none => none) else none
  | _, _ => none
theorem gv_sam {op : BinOp} {t yt : TypeId} {x y : Operand} {v q r : Value} (h : Fr ρ N fm a) (hx : evE fm.t x = some v) (hy : evE fm.t y = some q) (hb : samE C op t v q = some r) : Gv C ρ a ⟨dst, .binOp op t x y yt, ty, p, af, g⟩ r := by
  obtain ⟨v', hv, he⟩ := evE_spec h hx
  obtain ⟨q', hq, he'⟩ := evE_spec h hy
  unfold samE at hb
  split at hb
  · rename_i b o b2 o2
    cases hbo : (Nat.beq b b2 && Nat.beq o o2) with
    | false => rw [hbo] at hb; cases hb
    | true =>
      rw [hbo, cond_true] at hb
      simp only [Bool.and_eq_true] at hbo
      obtain rfl := Nat.eq_of_beq_eq_true hbo.1
      obtain rfl := Nat.eq_of_beq_eq_true hbo.2
      rw [hv] at hq; cases hq
      simp only [conc, cA, Option.map_eq_some_iff] at hv
      obtain ⟨a', _, rfl⟩ := hv
      cases ht : C.tt.get t with
      | none => rw [ht] at hb; cases hb
      | some ti =>
        rw [ht] at hb
        obtain ⟨k, z, sz, by'⟩ := ti
        cases k with
        | pointer e =>
          simp only at hb
          split at hb
          · rename_i te hte
            cases hb
            obtain ⟨d, i, _, hi, _⟩ := tiOf_spec (C.okT _ _ hte)
            refine ⟨.bool false, conc_bool _ _, fun w => ?_⟩
            have h1 := Go.Lib.run_neq_ptr_same (P := C.P) w a' (tk_pointer (C.okT _ _ ht)) hi
            have h2 : (eqGuard .neq t x y (.pointer (some a')) (.pointer (some a'))).run C.P w = .ok () w := rfl
            simp only [execOp, he, he']
            rw [Sem.run_bind, Sem.run_bind, h2, Result.andThen_ok, h1]; rfl
          · cases hb
        | _ => cases hb
  · cases hb
end
end Go.Ev
