/-
  Struct literals; elements of one's own by their addresses.
-/
import Derived.Test.YthiehhglnaiohaaGreatDoorWk9
import Derived.Test.YthiehhglnaiohaaGreatDoorWk5
import Derived.Laws.Tables
import Derived.Lib.SliceRun
namespace Go.Wk
set_option linter.unusedVariables false
set_option linter.unusedSimpArgs false

def plc (tab : List (Nat × Ti)) : List (Nat × TypeId) → Option (List (Nat × Nat))
  | [] => some []
  | (off, ft) :: r => match tl tab ft, plc tab r with
    | some tf, some ps => some ((off, tf.sz) :: ps)
    | _, _ => none
def fillC (places : List (Nat × Nat)) : List Value → List (Nat × Value) → Option (List Value)
  | cs, [] => some cs
  | cs, (i, v) :: r => match places[i]? with
    | some (off, sz) => bif Nat.beq v.cells.size sz && Nat.ble (off + sz) cs.length then fillC places (putC cs off v.cells.toList) r else none
    | none => none

theorem fill_C (places : List (Nat × Nat)) : ∀ (parts : List (Nat × Value)) (cs cs' : List Value), fillC places cs parts = some cs' → Instr.fill (fun i => places[i]?) ⟨cs⟩ parts = some ⟨cs'⟩
  | [], cs, cs', h => by simp only [fillC, Option.some.injEq] at h; subst h; rfl
  | (i, v) :: r, cs, cs', h => by
    simp only [fillC] at h
    simp only [Instr.fill]
    cases hp : places[i]? with
    | none => simp [hp] at h
    | some q =>
      obtain ⟨off, sz⟩ := q
      simp only [hp] at h
      cases hb : (Nat.beq v.cells.size sz && Nat.ble (off + sz) cs.length) with
      | false => rw [hb] at h; simp at h
      | true =>
        rw [hb] at h
        simp only [cond_true] at h
        simp only [Bool.and_eq_true] at hb
        have h1 := Nat.eq_of_beq_eq_true hb.1
        have h2 := Nat.le_of_ble_eq_true hb.2
        dsimp only
        rw [if_neg (by
          simp only [Bool.or_eq_true, decide_eq_true_eq, not_or]
          refine ⟨by simp [h1], ?_⟩
          show ¬ (off + v.cells.size > cs.length)
          rw [h1]; omega)]
        have e1 : v.cells.zipIdx.foldl (fun cs (x : Value × Nat) => match x with | (c, j) => cs.setIfInBounds (off + j) c) (⟨cs⟩ : Array Value) = ⟨putC cs off v.cells.toList⟩ := by
          have h5 : v.cells.zipIdx.foldl (fun cs (x : Value × Nat) => cs.setIfInBounds (off + x.2) x.1) (⟨cs⟩ : Array Value) = (v.cells.toList.zipIdx 0).foldl (fun cs (x : Value × Nat) => cs.setIfInBounds (off + x.2) x.1) (⟨cs⟩ : Array Value) := by
            rw [← Array.foldl_toList]; simp
          rw [foldl_put] at h5
          simpa using h5
        rw [e1]
        exact fill_C places r _ cs' h

theorem plc_spec {P : Program} {tab : List (Nat × Ti)} (ok : TbOk P tab) : ∀ (fl : List Field) (ps : List (Nat × Nat)), plc tab (fl.map fun f => (f.offset, f.type)) = some ps → fl.mapM (fun f => (P.info? f.type).map fun i => (f.offset, i.size)) = some ps
  | [], ps, h => by simpa [plc] using h
  | f :: fl, ps, h => by
    simp only [List.map_cons, plc] at h
    split at h
    · rename_i tf ps' h1 h2
      cases h
      obtain ⟨d, i, _, hi, _, _, hs, _⟩ := tiOf_spec (ok.at h1)
      have ih := plc_spec ok fl ps' h2
      simp [List.mapM_cons, hi, ih, hs]
    · cases h

section
variable {X : Cx} {ops : Array Oper} {Q : Post} {rest : List Oper} {L : LT} {R : RL} {d : Nat} {x y : Operand} {v u : Value} {t ty : TypeId} {p : String} {af : Array Edge}
theorem p_build {parts : Array (Nat × Operand)} {fs : List (Nat × TypeId)} {z : Value} {s b : Nat} {ps : List (Nat × Nat)} {vs cs : List Value} (ht : tl X.s.tab t = some ⟨.struct fs, z, s, b⟩) (hp : plc X.s.tab fs = some ps)
    (hv : evs L (parts.toList.map (·.2)) = some vs) (hf : fillC ps z.cells.toList ((parts.toList.map (·.1)).zip vs) = some cs) :
    PR X.s.P L (⟨some d, .build t parts, ty, p, af, none⟩ : Oper) (.agg ⟨cs⟩) := fun ρ w h => by
  obtain ⟨dd, i, hu, hi, hk, hz, _, _⟩ := tiOf_spec (X.s.ok.at ht)
  cases dd <;> simp [tkOf] at hk
  rename_i fl
  have hpl := plc_spec X.s.ok fl.toList ps (by rw [hk]; exact hp)
  have hm := evs_map h hv
  have hparts : (parts.map fun (i, x) => (i, ρ x)).toList = (parts.toList.map (·.1)).zip vs := by
    rw [← hm]
    simp only [Array.toList_map, List.map_map]
    generalize parts.toList = l
    induction l with
    | nil => rfl
    | cons q l ih => simp only [List.map_cons, List.zip_cons_cons, ih]; rfl
  have hfill := fill_C ps _ _ _ hf
  have hr := run_build (P := X.s.P) w t (parts.map fun (i, x) => (i, ρ x)) ⟨cs⟩ (by
    rw [hparts]
    simp only [Program.built, hi, hu, hz, hpl]
    have e : (⟨z.cells.toList⟩ : Array Value) = z.cells := rfl
    rw [e] at hfill
    simpa using hfill)
  simp only [execOp]
  rw [Sem.run_bind]
  have e2 : (parts.map fun (x : Nat × Operand) => (x.1, ρ x.2)) = (parts.map fun (i, x) => (i, ρ x)) := rfl
  rw [hr]; rfl
theorem g_build {parts : Array (Nat × Operand)} {fs : List (Nat × TypeId)} {z : Value} {s b : Nat} {ps : List (Nat × Nat)} {vs cs : List Value} (ht : tl X.s.tab t = some ⟨.struct fs, z, s, b⟩) (hp : plc X.s.tab fs = some ps)
    (hv : evs L (parts.toList.map (·.2)) = some vs) (hf : fillC ps z.cells.toList ((parts.toList.map (·.1)).zip vs) = some cs) (hN : Nat.blt d X.N = true) (k : G X ops Q rest ((d, .agg ⟨cs⟩) :: L) R) :
    G X ops Q (⟨some d, .build t parts, ty, p, af, none⟩ :: rest) L R := g_p (p_build ht hp hv hf) hN k

/-- A slice and nil, compared. -/
theorem p_eqS {A : Option Addr} {n c n' c' : Nat} {yt e : TypeId} {z : Value} {s b : Nat} (hx : ev L x = some (.slice A n c)) (hy : ev L y = some (.slice none n' c')) (ht : tl X.s.tab t = some ⟨.slice e, z, s, b⟩) :
    PR X.s.P L (⟨some d, .binOp .eql t x y yt, ty, p, af, none⟩ : Oper) (.bool A.isNone) := fun ρ w h => by
  simp only [execOp]; rw [h x _ hx, h y _ hy]
  have h1 := Go.Lib.run_eql_slice_nil (P := X.s.P) w t e A n c n' c' (tk_slice (X.s.ok.at ht))
  have h2 : (do eqGuard .eql t x y (.slice A n c) (.slice none n' c'); binOp .eql t (.slice A n c) (.slice none n' c') : Sem Value).run X.s.P w = .ok (.bool A.isNone) w := by
    simp [eqGuard, h1]
  rw [Sem.run_bind, h2]; rfl
theorem g_eqS {A : Option Addr} {n c n' c' : Nat} {yt e : TypeId} {z : Value} {s b : Nat} (hx : ev L x = some (.slice A n c)) (hy : ev L y = some (.slice none n' c')) (ht : tl X.s.tab t = some ⟨.slice e, z, s, b⟩) (hN : Nat.blt d X.N = true)
    (k : G X ops Q rest ((d, .bool A.isNone) :: L) R) : G X ops Q (⟨some d, .binOp .eql t x y yt, ty, p, af, none⟩ :: rest) L R := g_p (p_eqS hx hy ht) hN k

/-- An element of one's own, by its address. -/
theorem g_ldL (j : Nat) {α : Type} {e : TypeId} {te : Ti} {A : HL} {f : α → List Value} {l : List α} {q : α} {g o n cap i : Nat}
    (hR : R[j]? = some A) (hx : ev L x = some (.pointer (some ⟨g, o, none⟩))) (ht : tl X.s.tab t = some te) (ho : OwnL e te.sz f (.slice (some ⟨g, 0, none⟩) n cap) l A) (hf : ∀ x, (f x).length = te.sz)
    (hi : o = i * te.sz) (hl : l[i]? = some q) (hv : asV te.k (f q) = some u) (hN : Nat.blt d X.N = true) (k : G X ops Q rest ((d, u) :: L) R) :
    G X ops Q (⟨some d, .load t x, ty, p, af, none⟩ :: rest) L R := by
  subst hi
  refine g_ldG hx ht (hf q) hv (fun w hE j' u' hj => ?_) hN k
  obtain ⟨ad', cap', he, hr⟩ := OwnL.rd hf ho (H := hw w) (fun b o hb => hE.holds b o (List.mem_flatten.2 ⟨_, List.mem_of_getElem? hR, hb⟩))
  obtain ⟨b2, o2, hA2, hc2⟩ := hr i q hl
  cases he
  cases hA2
  rw [← cellAt_hw]
  have := hc2 j' u' hj
  rwa [Nat.zero_add] at this
theorem g_stL (j : Nat) {α : Type} {e : TypeId} {te : Ti} {A : HL} {f : α → List Value} {l : List α} {q : α} {g o n cap i : Nat}
    (hR : R[j]? = some A) (hx : ev L x = some (.pointer (some ⟨g, o, none⟩))) (hy : ev L y = some u) (ht : tl X.s.tab t = some te) (ho : OwnL e te.sz f (.slice (some ⟨g, 0, none⟩) n cap) l A) (hf : ∀ x, (f x).length = te.sz)
    (hi : o = i * te.sz) (hl : i < l.length) (hu : u.cells = ⟨f q⟩) (h1 : ((f q).all (·.oneCell')) = true)
    (k : ∀ A', OwnL e te.sz f (.slice (some ⟨g, 0, none⟩) n cap) (l.set i q) A' → G X ops Q rest L (R.set j A')) :
    G X ops Q (⟨none, .store t x y, ty, p, af, none⟩ :: rest) L R := by
  subst hi
  obtain ⟨g', cap', rst, hv, rfl, hc1, hc2, hc3⟩ := Own.pos ho (by omega)
  cases hv
  have hb : i * te.sz + te.sz ≤ l.length * te.sz := by
    have : (i + 1) * te.sz ≤ l.length * te.sz := Nat.mul_le_mul_right _ hl
    rw [Nat.add_mul] at this; omega
  refine g_stW j hR hx hy ht (by rw [hu]; exact hf q) ?_ (by rw [hu]; exact h1) ?_
  · rw [List.length_append, flat_len hf l]; omega
  · have e1 : putC (l.flatMap f ++ rst) (i * te.sz) u.cells.toList = (l.set i q).flatMap f ++ rst := by
      rw [hu]; exact putC_flat hf l i q rst hl
    rw [e1]
    refine k _ ⟨by rw [flat_len hf, List.length_set], .inr ⟨g, cap, rst, by rw [List.length_set], rfl, by rw [List.length_set]; exact hc1, hc2, ?_⟩⟩
    rw [List.length_append, flat_len hf, List.length_set, ← flat_len hf l, ← List.length_append]; exact hc3

/-- make, as a list. -/
theorem own_make {α : Type} {e : TypeId} {te : Ti} {f : α → List Value} (z : α) (hz : te.z.cells.toList = f z) (hf : (f z).length = te.sz) (g n : Nat) (hn : n ≤ maxLen) : OwnL e te.sz f (.slice (some ⟨g, 0, none⟩) n n) (List.replicate n z) [(g, .cells ⟨rep n te.z.cells.toList⟩ e (0, 0))] := by
  have h1 : (List.replicate n z).flatMap f = rep n te.z.cells.toList := by
    rw [hz]; unfold rep
    induction n with
    | zero => rfl
    | succ n ih => simp only [List.replicate_succ, List.flatMap_cons, List.flatten_cons]; rw [ih (by omega)]
  have h2 : (rep n te.z.cells.toList).length = n * te.sz := by
    unfold rep; rw [hz]; simp [hf]
  refine ⟨by rw [h1, List.length_replicate, h2], .inr ⟨g, n, [], by rw [List.length_replicate], by rw [h1, List.append_nil], by simp, hn, by rw [h1, List.append_nil, h2]⟩⟩
theorem flatten_pick (As : List HL) (i : Nat) (h : i < As.length) : (As[i] ++ (As.eraseIdx i).flatten).Perm As.flatten := perm_pick As i _ (List.getElem?_eq_getElem h)
theorem flatten_put (As : List HL) (i : Nat) (B : HL) (h : i < As.length) : (B ++ (As.eraseIdx i).flatten).Perm (As.set i B).flatten := by
  have := perm_pick (As.set i B) i B (by simp [h])
  rwa [List.eraseIdx_set_eq] at this
end
/-- A map's literal: one entry put in. -/
theorem g_ins {X : Cx} {ops : Array Oper} {Q : Post} {rest : List Oper} {L : LT} {R : RL} {x y q : Operand} {v : Value} {t ty : TypeId} {p : String} {af : Array Edge} {κ : Type} [DecidableEq κ] {kf : κ → Value} {kv : List (κ × Value)} {es : Array MapEntry} {clock : Nat} (i : Nat) {r : Nat} {k : κ} {kt et : TypeId} {z : Value} {s b : Nat} (hR : R[i]? = some [(r, .map es clock)]) (hx : ev L x = some (.map (some r))) (hy : ev L y = some (kf k)) (hq : ev L q = some v) (ht : tl X.s.tab t = some ⟨.map kt et, z, s, b⟩)
    (K : KL X.s.P kt kf) (M : MapIs kf kv es clock) (k' : ∀ es' clock', MapIs kf (mput kv k v) es' clock' → G X ops Q rest L (R.set i [(r, .map es' clock')])) :
    G X ops Q (⟨none, .insert t x y q, ty, p, af, none⟩ :: rest) L R :=
  g_runU (Y := Array MapEntry × Nat) (fun m => R.set i [(r, .map m.1 m.2)]) (fun m => MapIs kf (mput kv k v) m.1 m.2) rfl rfl (by intro c h; cases h)
    (fun a w ha hE => by
      have hb := hp_cellA hE hR
      obtain ⟨es', clock', hr, M'⟩ := run_mapUpdate (X.s.ok.at ht) K M hb k v
      refine ⟨(es', clock'), _, .inl ?_, hp_front i hR hE (Eff.setObj hb), M'⟩
      simp only [execOp]
      rw [ha.kn.ev hx, ha.kn.ev hy, ha.kn.ev hq, Sem.run_bind, hr]; rfl) (fun m hm => k' m.1 m.2 hm)
theorem hp_permL {X : Cx} {w : World} {R R' : RL} (H : Hp X w R) (h : R'.Perm R) : Hp X w R' := hp_perm H h.flatten
theorem hp_sel {X : Cx} {w : World} {R R' : RL} (B : HL) (H : Hp X w R) (h : (R'.flatten ++ B).Perm R.flatten) : Hp X w R' := Eff.sel H B h
/-- Rearranged: each block as often as before. -/
theorem hp_cnt {X : Cx} {w : World} {R R' : RL} (B : HL) (H : Hp X w R) (h : ∀ [BEq (Nat × Obj)] [LawfulBEq (Nat × Obj)] (a : Nat × Obj), R'.flatten.count a + B.count a = R.flatten.count a) : Hp X w R' := by
  haveI : DecidableEq (Nat × Obj) := fun _ _ => Classical.propDecidable _
  refine hp_sel B H (List.perm_iff_count.2 fun a => ?_)
  rw [List.count_append]; exact h a
theorem cnt_erase [BEq (Nat × Obj)] [LawfulBEq (Nat × Obj)] (As : List HL) (i : Nat) {a : HL} (h : As[i]? = some a) (x : Nat × Obj) : As.flatten.count x = a.count x + (As.eraseIdx i).flatten.count x := by
  rw [← (perm_pick As i a h).count_eq, List.count_append]
theorem cnt_set [BEq (Nat × Obj)] [LawfulBEq (Nat × Obj)] (As : List HL) (i : Nat) {B : HL} (h : i < As.length) (x : Nat × Obj) : (As.set i B).flatten.count x = B.count x + (As.eraseIdx i).flatten.count x := by
  rw [← (flatten_put As i B h).count_eq, List.count_append]
/-- An element read of whatever memory holds it now. -/
theorem g_atG {X : Cx} {ops : Array Oper} {Q : Post} {rest : List Oper} {L : LT} {R : RL} {d : Nat} {x y : Operand} {v : Value} {t ty : TypeId} {p : String} {af : Array Edge} {α : Type} {d1 : Nat} {t2 ty1 : TypeId} {p1 : String} {af1 : Array Edge} {e : TypeId} {z : Value} {s b : Nat} {te : Ti} {ik : IntKind} {i : Int} {A : Option Addr} {n c : Nat} {f : α → List Value} {l : List α} {u : α}
    (hx : ev L x = some (.slice A n c)) (hy : ev L y = some (.int ik i)) (ht : tl X.s.tab t = some ⟨.slice e, z, s, b⟩) (hte : tl X.s.tab e = some te) (he : Nat.beq t2 e = true)
    (h0 : 0 ≤ i) (h1 : i < n) (hr : ∀ w, Hp X w R → Rd (hw w) f te.sz A l) (hl : l[i.toNat]? = some u) (hs : (f u).length = te.sz) (hv : asV te.k (f u) = some v) (hN1 : Nat.blt d1 X.N = true) (hN : Nat.blt d X.N = true)
    (k : ∀ a, G X ops Q rest ((d, v) :: (d1, .pointer (some a)) :: L) R) :
    G X ops Q (⟨some d1, .indexAddr t x y, ty1, p1, af1, none⟩ :: ⟨some d, .load t2 (.tmp d1), ty, p, af, none⟩ :: rest) L R := by
  obtain rfl := Nat.eq_of_beq_eq_true he
  intro a w ha hE
  obtain ⟨bx, o, rfl, hc⟩ := hr w hE _ _ hl
  refine g_ix hx hy ht hte h0 h1 hN1 ?_ a w ha hE
  exact g_ldG (lk_hd d1 _ L) hte hs hv (fun w' hE' j u' hj => by
    obtain ⟨b2, o2, hA2, hc2⟩ := hr w' hE' _ _ hl
    cases hA2
    rw [← cellAt_hw]; exact hc2 j u' hj) hN (k _)
theorem hp_in {X : Cx} {w : World} {R : RL} (H : Hp X w R) {A : HL} (i : Nat) (h : R[i]? = some A) : ∀ b o, (b, o) ∈ A → hw w b = some o := fun b o hb => H.holds b o (List.mem_flatten.2 ⟨A, List.mem_of_getElem? h, hb⟩)
end Go.Wk
