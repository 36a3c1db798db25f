/-
  Struct literals; elements of one's own by their addresses.
  Fields of elements of one's own, by their addresses.
  Maps of old memory.
  Range over a function: rounds, marks.
  A reckoner for closed calls: trees by number; values whose blocks bear numbers of their own, and what they stand for.
  The reckoner's state, and how a world and a frame stand to it.
-/
import Derived.Test.YtpohhfggmaihpaaGreatDoorZ4
import Derived.Test.YtpohhfggmaihpaaGreatDoorZ3
import Derived.Laws.Tables
import Derived.Lib.SliceRun
import Derived.RangeFuncLeaves

/- Struct literals; elements of one's own by their addresses. -/
namespace Go.Wk
set_option linter.unusedVariables false
set_option linter.unusedSimpArgs false

def plc (tab : List (Nat × Ti)) : List (Nat × TypeId) → Option (List (Nat × Nat))
  | [] => some []
  | (off, ft) :: r => match tl tab ft, plc tab r with
    | some tf, some ps => some ((off, tf.sz) :: ps)
    | _, _ => none
def fillC (places : List (Nat × Nat)) : List Value → List (Nat × Value) → Option (List Value)
  | cs, [] => some cs
  | cs, (i, v) :: r => match places[i]? with
    | some (off, sz) => bif Nat.beq v.cells.size sz && Nat.ble (off + sz) cs.length then fillC places (putC cs off v.cells.toList) r else none
    | none => none

theorem fill_C (places : List (Nat × Nat)) : ∀ (parts : List (Nat × Value)) (cs cs' : List Value), fillC places cs parts = some cs' → Instr.fill (fun i => places[i]?) ⟨cs⟩ parts = some ⟨cs'⟩
  | [], cs, cs', h => by simp only [fillC, Option.some.injEq] at h; subst h; rfl
  | (i, v) :: r, cs, cs', h => by
    simp only [fillC] at h
    simp only [Instr.fill]
    cases hp : places[i]? with
    | none => simp [hp] at h
    | some q =>
      obtain ⟨off, sz⟩ := q
      simp only [hp] at h
      cases hb : (Nat.beq v.cells.size sz && Nat.ble (off + sz) cs.length) with
      | false => rw [hb] at h; simp at h
      | true =>
        rw [hb] at h
        simp only [cond_true] at h
        simp only [Bool.and_eq_true] at hb
        have h1 := Nat.eq_of_beq_eq_true hb.1
        have h2 := Nat.le_of_ble_eq_true hb.2
        dsimp only
        rw [if_neg (by
          simp only [Bool.or_eq_true, decide_eq_true_eq, not_or]
          refine ⟨by simp [h1], ?_⟩
          show ¬ (off + v.cells.size > cs.length)
          rw [h1]; omega)]
        have e1 : v.cells.zipIdx.foldl (fun cs (x : Value × Nat) => match x with | (c, j) => cs.setIfInBounds (off + j) c) (⟨cs⟩ : Array Value) = ⟨putC cs off v.cells.toList⟩ := by
          have h5 : v.cells.zipIdx.foldl (fun cs (x : Value × Nat) => cs.setIfInBounds (off + x.2) x.1) (⟨cs⟩ : Array Value) = (v.cells.toList.zipIdx 0).foldl (fun cs (x : Value × Nat) => cs.setIfInBounds (off + x.2) x.1) (⟨cs⟩ : Array Value) := by
            rw [← Array.foldl_toList]; simp
          rw [foldl_put] at h5
          simpa using h5
        rw [e1]
        exact fill_C places r _ cs' h

theorem plc_spec {P : Program} {tab : List (Nat × Ti)} (ok : TbOk P tab) : ∀ (fl : List Field) (ps : List (Nat × Nat)), plc tab (fl.map fun f => (f.offset, f.type)) = some ps → fl.mapM (fun f => (P.info? f.type).map fun i => (f.offset, i.size)) = some ps
  | [], ps, h => by simpa [plc] using h
  | f :: fl, ps, h => by
    simp only [List.map_cons, plc] at h
    split at h
    · rename_i tf ps' h1 h2
      cases h
      obtain ⟨d, i, _, hi, _, _, hs, _⟩ := tiOf_spec (ok.at h1)
      have ih := plc_spec ok fl ps' h2
      simp [List.mapM_cons, hi, ih, hs]
    · cases h

section
variable {X : Cx} {ops : Array Oper} {Q : Post} {rest : List Oper} {L : LT} {R : RL} {d : Nat} {x y : Operand} {v u : Value} {t ty : TypeId} {p : String} {af : Array Edge}
theorem p_build {parts : Array (Nat × Operand)} {fs : List (Nat × TypeId)} {z : Value} {s b : Nat} {ps : List (Nat × Nat)} {vs cs : List Value} (ht : tl X.s.tab t = some ⟨.struct fs, z, s, b⟩) (hp : plc X.s.tab fs = some ps)
    (hv : evs L (parts.toList.map (·.2)) = some vs) (hf : fillC ps z.cells.toList ((parts.toList.map (·.1)).zip vs) = some cs) :
    PR X.s.P L (⟨some d, .build t parts, ty, p, af, none⟩ : Oper) (.agg ⟨cs⟩) := fun ρ w h => by
  obtain ⟨dd, i, hu, hi, hk, hz, _, _⟩ := tiOf_spec (X.s.ok.at ht)
  cases dd <;> simp [tkOf] at hk
  rename_i fl
  have hpl := plc_spec X.s.ok fl.toList ps (by rw [hk]; exact hp)
  have hm := evs_map h hv
  have hparts : (parts.map fun (i, x) => (i, ρ x)).toList = (parts.toList.map (·.1)).zip vs := by
    rw [← hm]
    simp only [Array.toList_map, List.map_map]
    generalize parts.toList = l
    induction l with
    | nil => rfl
    | cons q l ih => simp only [List.map_cons, List.zip_cons_cons, ih]; rfl
  have hfill := fill_C ps _ _ _ hf
  have hr := run_build (P := X.s.P) w t (parts.map fun (i, x) => (i, ρ x)) ⟨cs⟩ (by
    rw [hparts]
    simp only [Program.built, hi, hu, hz, hpl]
    have e : (⟨z.cells.toList⟩ : Array Value) = z.cells := rfl
    rw [e] at hfill
    simpa using hfill)
  simp only [execOp]
  rw [Sem.run_bind]
  have e2 : (parts.map fun (x : Nat × Operand) => (x.1, ρ x.2)) = (parts.map fun (i, x) => (i, ρ x)) := rfl
  rw [hr]; rfl
theorem g_build {parts : Array (Nat × Operand)} {fs : List (Nat × TypeId)} {z : Value} {s b : Nat} {ps : List (Nat × Nat)} {vs cs : List Value} (ht : tl X.s.tab t = some ⟨.struct fs, z, s, b⟩) (hp : plc X.s.tab fs = some ps)
    (hv : evs L (parts.toList.map (·.2)) = some vs) (hf : fillC ps z.cells.toList ((parts.toList.map (·.1)).zip vs) = some cs) (hN : Nat.blt d X.N = true) (k : G X ops Q rest ((d, .agg ⟨cs⟩) :: L) R) :
    G X ops Q (⟨some d, .build t parts, ty, p, af, none⟩ :: rest) L R := g_p (p_build ht hp hv hf) hN k

/-- A slice and nil, compared. -/
theorem p_eqS {A : Option Addr} {n c n' c' : Nat} {yt e : TypeId} {z : Value} {s b : Nat} (hx : ev L x = some (.slice A n c)) (hy : ev L y = some (.slice none n' c')) (ht : tl X.s.tab t = some ⟨.slice e, z, s, b⟩) :
    PR X.s.P L (⟨some d, .binOp .eql t x y yt, ty, p, af, none⟩ : Oper) (.bool A.isNone) := fun ρ w h => by
  simp only [execOp]; rw [h x _ hx, h y _ hy]
  have h1 := Go.Lib.run_eql_slice_nil (P := X.s.P) w t e A n c n' c' (tk_slice (X.s.ok.at ht))
  have h2 : (do eqGuard .eql t x y (.slice A n c) (.slice none n' c'); binOp .eql t (.slice A n c) (.slice none n' c') : Sem Value).run X.s.P w = .ok (.bool A.isNone) w := by
    simp [eqGuard, h1]
  rw [Sem.run_bind, h2]; rfl
theorem g_eqS {A : Option Addr} {n c n' c' : Nat} {yt e : TypeId} {z : Value} {s b : Nat} (hx : ev L x = some (.slice A n c)) (hy : ev L y = some (.slice none n' c')) (ht : tl X.s.tab t = some ⟨.slice e, z, s, b⟩) (hN : Nat.blt d X.N = true)
    (k : G X ops Q rest ((d, .bool A.isNone) :: L) R) : G X ops Q (⟨some d, .binOp .eql t x y yt, ty, p, af, none⟩ :: rest) L R := g_p (p_eqS hx hy ht) hN k

/-- An element of one's own, by its address. -/
theorem g_ldL (j : Nat) {α : Type} {e : TypeId} {te : Ti} {A : HL} {f : α → List Value} {l : List α} {q : α} {g o n cap i : Nat}
    (hR : R[j]? = some A) (hx : ev L x = some (.pointer (some ⟨g, o, none⟩))) (ht : tl X.s.tab t = some te) (ho : OwnL e te.sz f (.slice (some ⟨g, 0, none⟩) n cap) l A) (hf : ∀ x, (f x).length = te.sz)
    (hi : o = i * te.sz) (hl : l[i]? = some q) (hv : asV te.k (f q) = some u) (hN : Nat.blt d X.N = true) (k : G X ops Q rest ((d, u) :: L) R) :
    G X ops Q (⟨some d, .load t x, ty, p, af, none⟩ :: rest) L R := by
  subst hi
  refine g_ldG hx ht (hf q) hv (fun w hE j' u' hj => ?_) hN k
  obtain ⟨ad', cap', he, hr⟩ := OwnL.rd hf ho (H := hw w) (fun b o hb => hE.holds b o (List.mem_flatten.2 ⟨_, List.mem_of_getElem? hR, hb⟩))
  obtain ⟨b2, o2, hA2, hc2⟩ := hr i q hl
  cases he
  cases hA2
  rw [← cellAt_hw]
  have := hc2 j' u' hj
  rwa [Nat.zero_add] at this
theorem g_stL (j : Nat) {α : Type} {e : TypeId} {te : Ti} {A : HL} {f : α → List Value} {l : List α} {q : α} {g o n cap i : Nat}
    (hR : R[j]? = some A) (hx : ev L x = some (.pointer (some ⟨g, o, none⟩))) (hy : ev L y = some u) (ht : tl X.s.tab t = some te) (ho : OwnL e te.sz f (.slice (some ⟨g, 0, none⟩) n cap) l A) (hf : ∀ x, (f x).length = te.sz)
    (hi : o = i * te.sz) (hl : i < l.length) (hu : u.cells = ⟨f q⟩) (h1 : ((f q).all (·.oneCell')) = true)
    (k : ∀ A', OwnL e te.sz f (.slice (some ⟨g, 0, none⟩) n cap) (l.set i q) A' → G X ops Q rest L (R.set j A')) :
    G X ops Q (⟨none, .store t x y, ty, p, af, none⟩ :: rest) L R := by
  subst hi
  obtain ⟨g', cap', rst, hv, rfl, hc1, hc2, hc3⟩ := Own.pos ho (by omega)
  cases hv
  have hb : i * te.sz + te.sz ≤ l.length * te.sz := by
    have : (i + 1) * te.sz ≤ l.length * te.sz := Nat.mul_le_mul_right _ hl
    rw [Nat.add_mul] at this; omega
  refine g_stW j hR hx hy ht (by rw [hu]; exact hf q) ?_ (by rw [hu]; exact h1) ?_
  · rw [List.length_append, flat_len hf l]; omega
  · have e1 : putC (l.flatMap f ++ rst) (i * te.sz) u.cells.toList = (l.set i q).flatMap f ++ rst := by
      rw [hu]; exact putC_flat hf l i q rst hl
    rw [e1]
    refine k _ ⟨by rw [flat_len hf, List.length_set], .inr ⟨g, cap, rst, by rw [List.length_set], rfl, by rw [List.length_set]; exact hc1, hc2, ?_⟩⟩
    rw [List.length_append, flat_len hf, List.length_set, ← flat_len hf l, ← List.length_append]; exact hc3

/-- make, as a list. -/
theorem own_make {α : Type} {e : TypeId} {te : Ti} {f : α → List Value} (z : α) (hz : te.z.cells.toList = f z) (hf : (f z).length = te.sz) (g n : Nat) (hn : n ≤ maxLen) : OwnL e te.sz f (.slice (some ⟨g, 0, none⟩) n n) (List.replicate n z) [(g, .cells ⟨rep n te.z.cells.toList⟩ e (0, 0))] := by
  have h1 : (List.replicate n z).flatMap f = rep n te.z.cells.toList := by
    rw [hz]; unfold rep
    induction n with
    | zero => rfl
    | succ n ih => simp only [List.replicate_succ, List.flatMap_cons, List.flatten_cons]; rw [ih (by omega)]
  have h2 : (rep n te.z.cells.toList).length = n * te.sz := by
    unfold rep; rw [hz]; simp [hf]
  refine ⟨by rw [h1, List.length_replicate, h2], .inr ⟨g, n, [], by rw [List.length_replicate], by rw [h1, List.append_nil], by simp, hn, by rw [h1, List.append_nil, h2]⟩⟩
theorem flatten_pick (As : List HL) (i : Nat) (h : i < As.length) : (As[i] ++ (As.eraseIdx i).flatten).Perm As.flatten := perm_pick As i _ (List.getElem?_eq_getElem h)
theorem flatten_put (As : List HL) (i : Nat) (B : HL) (h : i < As.length) : (B ++ (As.eraseIdx i).flatten).Perm (As.set i B).flatten := by
  have := perm_pick (As.set i B) i B (by simp [h])
  rwa [List.eraseIdx_set_eq] at this
end
/-- A map's literal: one entry put in. -/
theorem g_ins {X : Cx} {ops : Array Oper} {Q : Post} {rest : List Oper} {L : LT} {R : RL} {x y q : Operand} {v : Value} {t ty : TypeId} {p : String} {af : Array Edge} {κ : Type} [DecidableEq κ] {kf : κ → Value} {kv : List (κ × Value)} {es : Array MapEntry} {clock : Nat} (i : Nat) {r : Nat} {k : κ} {kt et : TypeId} {z : Value} {s b : Nat} (hR : R[i]? = some [(r, .map es clock)]) (hx : ev L x = some (.map (some r))) (hy : ev L y = some (kf k)) (hq : ev L q = some v) (ht : tl X.s.tab t = some ⟨.map kt et, z, s, b⟩)
    (K : KL X.s.P kt kf) (M : MapIs kf kv es clock) (k' : ∀ es' clock', MapIs kf (mput kv k v) es' clock' → G X ops Q rest L (R.set i [(r, .map es' clock')])) :
    G X ops Q (⟨none, .insert t x y q, ty, p, af, none⟩ :: rest) L R :=
  g_runU (Y := Array MapEntry × Nat) (fun m => R.set i [(r, .map m.1 m.2)]) (fun m => MapIs kf (mput kv k v) m.1 m.2) rfl rfl (by intro c h; cases h)
    (fun a w ha hE => by
      have hb := hp_cellA hE hR
      obtain ⟨es', clock', hr, M'⟩ := run_mapUpdate (X.s.ok.at ht) K M hb k v
      refine ⟨(es', clock'), _, .inl ?_, hp_front i hR hE (Eff.setObj hb), M'⟩
      simp only [execOp]
      rw [ha.kn.ev hx, ha.kn.ev hy, ha.kn.ev hq, Sem.run_bind, hr]; rfl) (fun m hm => k' m.1 m.2 hm)
theorem hp_permL {X : Cx} {w : World} {R R' : RL} (H : Hp X w R) (h : R'.Perm R) : Hp X w R' := hp_perm H h.flatten
theorem hp_sel {X : Cx} {w : World} {R R' : RL} (B : HL) (H : Hp X w R) (h : (R'.flatten ++ B).Perm R.flatten) : Hp X w R' := Eff.sel H B h
/-- Rearranged: each block as often as before. -/
theorem hp_cnt {X : Cx} {w : World} {R R' : RL} (B : HL) (H : Hp X w R) (h : ∀ [BEq (Nat × Obj)] [LawfulBEq (Nat × Obj)] (a : Nat × Obj), R'.flatten.count a + B.count a = R.flatten.count a) : Hp X w R' := by
  haveI : DecidableEq (Nat × Obj) := fun _ _ => Classical.propDecidable _
  refine hp_sel B H (List.perm_iff_count.2 fun a => ?_)
  rw [List.count_append]; exact h a
theorem cnt_erase [BEq (Nat × Obj)] [LawfulBEq (Nat × Obj)] (As : List HL) (i : Nat) {a : HL} (h : As[i]? = some a) (x : Nat × Obj) : As.flatten.count x = a.count x + (As.eraseIdx i).flatten.count x := by
  rw [← (perm_pick As i a h).count_eq, List.count_append]
theorem cnt_set [BEq (Nat × Obj)] [LawfulBEq (Nat × Obj)] (As : List HL) (i : Nat) {B : HL} (h : i < As.length) (x : Nat × Obj) : (As.set i B).flatten.count x = B.count x + (As.eraseIdx i).flatten.count x := by
  rw [← (flatten_put As i B h).count_eq, List.count_append]
/-- An element read of whatever memory holds it now. -/
theorem g_atG {X : Cx} {ops : Array Oper} {Q : Post} {rest : List Oper} {L : LT} {R : RL} {d : Nat} {x y : Operand} {v : Value} {t ty : TypeId} {p : String} {af : Array Edge} {α : Type} {d1 : Nat} {t2 ty1 : TypeId} {p1 : String} {af1 : Array Edge} {e : TypeId} {z : Value} {s b : Nat} {te : Ti} {ik : IntKind} {i : Int} {A : Option Addr} {n c : Nat} {f : α → List Value} {l : List α} {u : α}
    (hx : ev L x = some (.slice A n c)) (hy : ev L y = some (.int ik i)) (ht : tl X.s.tab t = some ⟨.slice e, z, s, b⟩) (hte : tl X.s.tab e = some te) (he : Nat.beq t2 e = true)
    (h0 : 0 ≤ i) (h1 : i < n) (hr : ∀ w, Hp X w R → Rd (hw w) f te.sz A l) (hl : l[i.toNat]? = some u) (hs : (f u).length = te.sz) (hv : asV te.k (f u) = some v) (hN1 : Nat.blt d1 X.N = true) (hN : Nat.blt d X.N = true)
    (k : ∀ a, G X ops Q rest ((d, v) :: (d1, .pointer (some a)) :: L) R) :
    G X ops Q (⟨some d1, .indexAddr t x y, ty1, p1, af1, none⟩ :: ⟨some d, .load t2 (.tmp d1), ty, p, af, none⟩ :: rest) L R := by
  obtain rfl := Nat.eq_of_beq_eq_true he
  intro a w ha hE
  obtain ⟨bx, o, rfl, hc⟩ := hr w hE _ _ hl
  refine g_ix hx hy ht hte h0 h1 hN1 ?_ a w ha hE
  exact g_ldG (lk_hd d1 _ L) hte hs hv (fun w' hE' j u' hj => by
    obtain ⟨b2, o2, hA2, hc2⟩ := hr w' hE' _ _ hl
    cases hA2
    rw [← cellAt_hw]; exact hc2 j u' hj) hN (k _)
theorem hp_in {X : Cx} {w : World} {R : RL} (H : Hp X w R) {A : HL} (i : Nat) (h : R[i]? = some A) : ∀ b o, (b, o) ∈ A → hw w b = some o := fun b o hb => H.holds b o (List.mem_flatten.2 ⟨A, List.mem_of_getElem? h, hb⟩)
end Go.Wk

/- Fields of elements of one's own, by their addresses. -/
namespace Go.Wk
set_option linter.unusedVariables false
set_option linter.unusedSimpArgs false

theorem putC_fld {α : Type} {f : α → List Value} {sz : Nat} (hf : ∀ x, (f x).length = sz) {l : List α} {i : Nat} {q q' : α} {off : Nat} {vs rest : List Value} (hl : l[i]? = some q) (hlen : off + vs.length ≤ sz) (hq : f q' = putC (f q) off vs) :
    putC (l.flatMap f ++ rest) (i * sz + off) vs = (l.set i q').flatMap f ++ rest := by
  have hi := (List.getElem?_eq_some_iff.1 hl).1
  rw [← putC_flat hf l i q' rest hi]
  have hL := flat_len hf l
  have hb : i * sz + sz ≤ l.length * sz := by
    have : (i + 1) * sz ≤ l.length * sz := Nat.mul_le_mul_right _ hi
    rw [Nat.add_mul] at this; omega
  apply List.ext_getElem?
  intro k
  rw [putC_get _ _ _ _ (by rw [List.length_append, hL]; omega), putC_get _ _ _ _ (by rw [List.length_append, hL, hf]; omega), hf]
  by_cases h1 : i * sz ≤ k ∧ k < i * sz + sz
  · rw [if_pos h1, hq, putC_get _ _ _ _ (by rw [hf]; omega)]
    by_cases h2 : i * sz + off ≤ k ∧ k < i * sz + off + vs.length
    · rw [if_pos h2, if_pos (by omega)]; congr 1; omega
    · rw [if_neg h2, if_neg (by omega)]
      have hk : k - i * sz < (f q).length := by rw [hf]; omega
      have h3 := flat_get hf l i q hl (k - i * sz) _ (List.getElem?_eq_getElem hk)
      rw [show i * sz + (k - i * sz) = k from by omega] at h3
      rw [List.getElem?_append_left (by rw [hL]; omega), h3, List.getElem?_eq_getElem hk]
  · rw [if_neg h1, if_neg (by omega)]

section
variable {X : Cx} {ops : Array Oper} {Q : Post} {rest : List Oper} {L : LT} {R R0 : RL} {d : Nat} {x y : Operand} {v u : Value} {t ty : TypeId} {p : String} {af : Array Edge} {fuel : Nat} {listed : Array Bool}
theorem g_ldF {α : Type} {f : α → List Value} {sz b o o' j off : Nat} {l : List α} {q : α} {ti : Ti} {cs : List Value} (hx : ev L x = some (.pointer (some ⟨b, o, none⟩))) (ht : tl X.s.tab t = some ti)
    (hr : ∀ w, Hp X w R → Rd (hw w) f sz (some ⟨b, o', none⟩) l) (ho : o = o' + j * sz + off) (hl : l[j]? = some q) (hc : takeC (f q) off ti.sz = some cs) (hv : asV ti.k cs = some v) (hN : Nat.blt d X.N = true) (k : G X ops Q rest ((d, v) :: L) R) :
    G X ops Q (⟨some d, .load t x, ty, p, af, none⟩ :: rest) L R := by
  subst ho
  refine g_ldG hx ht (takeC_spec _ _ _ _ hc).1 hv (fun w hE j' u' hj => ?_) hN k
  obtain ⟨b2, o2, hA2, hc2⟩ := (hr w hE).fld hl hc
  cases hA2
  rw [← cellAt_hw]; exact hc2 j' u' hj
theorem ga_ldF (i : Nat) {g : Option (Nat × Bool)} {α : Type} {f : α → List Value} {sz b o o' j off : Nat} {l : List α} {q : α} {ti : Ti} {cs : List Value} (hQ : NoP Q) (hi : ops[i]? = some ⟨some d, .load t x, ty, p, af, g⟩)
    (hg : ∀ a, Ok X a L → Region.wanted ⟨some d, .load t x, ty, p, af, g⟩ (yielded ops a.tmps) = true) (hx : ev L x = some (.pointer (some ⟨b, o, none⟩))) (ht : tl X.s.tab t = some ti)
    (hr : ∀ w, Still X R0 w → Rd (hw w) f sz (some ⟨b, o', none⟩) l) (ho : o = o' + j * sz + off) (hl : l[j]? = some q) (hc : takeC (f q) off ti.sz = some cs) (hv : asV ti.k cs = some v)
    (hN : Nat.blt d X.N = true) (hns : noDS ops = true) (hf : Region.free .any ops listed i = true) (hrd : (Region.ready .any ops listed).contains i = true)
    (k : GA X ops Q R0 fuel (listed.setIfInBounds i true) ((d, v) :: L) R) : GA X ops Q R0 (fuel + 1) listed L R := by
  subst ho
  refine ga_ldG i hQ hi hg hx ht (takeC_spec _ _ _ _ hc).1 hv (fun w hS j' u' hj => ?_) hN hns hf hrd k
  obtain ⟨b2, o2, hA2, hc2⟩ := (hr w hS).fld hl hc
  cases hA2
  rw [← cellAt_hw]; exact hc2 j' u' hj
theorem g_stF (j : Nat) {α : Type} {e : TypeId} {ti : Ti} {sz : Nat} {A : HL} {f : α → List Value} {l : List α} {q : α} (q' : α) {g o n cap i off : Nat}
    (hR : R[j]? = some A) (hx : ev L x = some (.pointer (some ⟨g, o, none⟩))) (hy : ev L y = some u) (ht : tl X.s.tab t = some ti) (ho : OwnL e sz f (.slice (some ⟨g, 0, none⟩) n cap) l A) (hf : ∀ x, (f x).length = sz)
    (hi : o = i * sz + off) (hl : l[i]? = some q) (hsz : u.cells.size = ti.sz) (hlen : off + ti.sz ≤ sz) (hq : f q' = putC (f q) off u.cells.toList) (h1 : (u.cells.toList.all (·.oneCell')) = true)
    (k : ∀ A', OwnL e sz f (.slice (some ⟨g, 0, none⟩) n cap) (l.set i q') A' → G X ops Q rest L (R.set j A')) :
    G X ops Q (⟨none, .store t x y, ty, p, af, none⟩ :: rest) L R := by
  subst hi
  have hlt := (List.getElem?_eq_some_iff.1 hl).1
  obtain ⟨g', cap', rst, hv, rfl, hc1, hc2, hc3⟩ := Own.pos ho (by omega)
  cases hv
  have hb : i * sz + sz ≤ l.length * sz := by
    have : (i + 1) * sz ≤ l.length * sz := Nat.mul_le_mul_right _ hlt
    rw [Nat.add_mul] at this; omega
  refine g_stW j hR hx hy ht hsz ?_ h1 ?_
  · rw [List.length_append, flat_len hf l]; omega
  · have e1 := putC_fld hf (rest := rst) (off := off) (vs := u.cells.toList) hl (by rw [Array.length_toList, hsz]; exact hlen) hq
    rw [e1]
    refine k _ ⟨by rw [flat_len hf, List.length_set], .inr ⟨g, cap, rst, by rw [List.length_set], rfl, by rw [List.length_set]; exact hc1, hc2, ?_⟩⟩
    rw [List.length_append, flat_len hf, List.length_set, ← flat_len hf l, ← List.length_append]; exact hc3
end
end Go.Wk

/- Maps of old memory. -/
namespace Go.Wk
set_option linter.unusedVariables false
theorem g_lookO {X : Cx} {ops : Array Oper} {Q : Post} {rest : List Oper} {L : LT} {R : RL} {d : Nat} {x y : Operand} {t ty : TypeId} {p : String} {af : Array Edge} {κ : Type} [DecidableEq κ] {kf : κ → Value} {kv : List (κ × Value)} {es : Array MapEntry} {clock : Nat}
    {r : Nat} {k : κ} {kt et : TypeId} {z : Value} {s b : Nat} {te : Ti} (hR : Oldh X r = some (.map es clock)) (hx : ev L x = some (.map (some r))) (hy : ev L y = some (kf k)) (ht : tl X.s.tab t = some ⟨.map kt et, z, s, b⟩) (hte : tl X.s.tab et = some te)
    (K : KL X.s.P kt kf) (M : MapIs kf kv es clock) (hN : Nat.blt d X.N = true) (k' : G X ops Q rest ((d, (ml kv k).getD te.z) :: L) R) :
    G X ops Q (⟨some d, .lookup t x y false, ty, p, af, none⟩ :: rest) L R :=
  g_run (Y := Unit) (fun _ => (ml kv k).getD te.z) (fun _ => R) (fun _ => True) rfl rfl hN (by intro c h; cases h)
    (fun a w ha hE => ⟨(), w, by
      have hr := run_lookup (X.s.ok.at ht) (X.s.ok.at hte) K M (show w.heap[r]? = _ from old_hw hE hR) k false
      simp only [execOp]
      rw [ha.kn.ev hx, ha.kn.ev hy, Sem.run_bind, hr]; rfl, hE, trivial⟩) (fun _ _ => k')
end Go.Wk

/- Range over a function: rounds, marks. -/
namespace Go.Wk
set_option linter.unusedVariables false
set_option linter.unusedSimpArgs false

/-- The same, with other deferred calls. -/
abbrev wd (X : Cx) (ds : List Deferred) : Cx := { X with ds := ds }
def AgainD (X : Cx) {Y : Type} (post : Y → Prop) (D : Y → List Deferred) (L : Y → LT) (R : Y → RL) (μ : Y → Nat) (m : Nat) : Act → World → Prop := fun a w => ∃ y, post y ∧ μ y < m ∧ Ok (wd X (D y)) a (L y) ∧ Hp X w (R y)
section
variable {X : Cx} {Q : Post} {L : LT} {R : RL}
/-- A loop each round of which may leave marks. -/
theorem gc_loopD {c : Code} {Y : Type} (post : Y → Prop) (Df : Y → List Deferred) (Lf : Y → LT) (Rf : Y → RL) (μ : Y → Nat) (y0 : Y) (hp : post y0) (hD : X.ds = Df y0) (hL : subL L (Lf y0)) (hR : ∀ w, Hp X w R → Hp X w (Rf y0))
    (round : ∀ y, post y → GC (wd X (Df y)) c (Exit.then (AgainD X post Df Lf Rf μ (μ y)) Q) (Lf y) (Rf y)) : GC X (.loop c) Q L R := by
  intro a w ha hE
  refine wpIn_loop (fun a w => ∃ n, ∃ y, μ y = n ∧ post y ∧ Ok (wd X (Df y)) a (Lf y) ∧ Hp X w (Rf y)) (fun a w => leastOf (fun n => ∃ y, μ y = n ∧ post y ∧ Ok (wd X (Df y)) a (Lf y) ∧ Hp X w (Rf y)))
    ⟨μ y0, y0, rfl, hp, ⟨ha.size, by rw [ha.defers, hD], subL.kn ha.kn hL⟩, hR w hE⟩ ?_
  intro a w hI
  obtain ⟨⟨y, hy, hpy, hok, hh⟩, _⟩ := leastOf_spec hI
  refine wpIn_mono (round y hpy a w hok hh) ?_
  intro e a' w' hq
  cases e with
  | normal =>
    obtain ⟨y', hp', hlt, hok', hh'⟩ := hq
    refine ⟨⟨μ y', y', rfl, hp', hok', hh'⟩, ?_⟩
    have hI' : ∃ n, ∃ y, μ y = n ∧ post y ∧ Ok (wd X (Df y)) a' (Lf y) ∧ Hp X w' (Rf y) := ⟨μ y', y', rfl, hp', hok', hh'⟩
    refine Nat.lt_of_le_of_lt ((leastOf_spec hI').2 (μ y') ⟨y', rfl, hp', hok', hh'⟩) ?_
    rw [← hy]; exact hlt
  | exit id => exact hq
  | goto l => exact hq
  | ret => exact hq
  | panic ch => exact hq
  | outgrown => exact hq
theorem gq_againD {ds : List Deferred} {Y : Type} {post : Y → Prop} {Df : Y → List Deferred} {Lf : Y → LT} {Rf : Y → RL} {μ : Y → Nat} {m : Nat} (y : Y) (hp : post y) (hμ : μ y < m) (hD : ds = Df y) (hL : subL L (Lf y)) (hR : ∀ w, Hp X w R → Hp X w (Rf y)) :
    GQ (wd X ds) (Exit.then (AgainD X post Df Lf Rf μ m) Q) .normal L R := fun _ w ha hE => ⟨y, hp, hμ, ⟨ha.size, by rw [ha.defers]; exact hD, subL.kn ha.kn hL⟩, hR w hE⟩

/-- A round of the loop l, as a call: of own memory A. -/
def Yp {Y : Type} (P : Program) (l : Nat) (args : List Value) (w : World) (A : HL) (v : Y → Value) (A' : Y → RL) (post : Y → Prop) : Prop :=
  ∃ f tmps assign body, (Instr.yield l args.toArray).run P w = .ok (.round l f tmps assign body) w ∧
    RoundIn (Fr none) 0 P l f tmps assign body w (fun e w' => ∃ y, post y ∧ e = .returned (v y) ∧ Eff w A w' (A' y).flatten)
/-- yield(..): a round, handed the part of R that is ahead. -/
theorem g_yield {ops : Array Oper} {rest : List Oper} {d : Nat} {ty : TypeId} {p : String} {af : Array Edge} {l : Nat} {f : Operand} {xs : Array Operand} {ats : Array TypeId} {vs : List Value} {Y : Type} {vf : Y → Value} {post : Y → Prop} {A' : Y → RL} {A : HL} {F : RL}
    (hro : X.ro = none) (hn : X.n = 0) (hR : R = A :: F) (hf : ev L f = some (.func (.yield l) #[] #[])) (hxs : evs L xs.toList = some vs)
    (hc : ∀ w, Hp X w (A :: F) → Yp X.s.P l vs w A vf A' post)
    (hN : Nat.blt d X.N = true) (k : ∀ y, post y → G X ops Q rest ((d, vf y) :: L) (A' y ++ F)) :
    G X ops Q (⟨some d, .call ⟨.value f, xs, ats⟩, ty, p, af, none⟩ :: rest) L R := by
  intro a w ha hE
  refine wpListIn_plain rfl (fun K hK => ?_)
  refine ⟨fun _ _ => trivial, ?_⟩
  rw [Oper.semAt_eq _ _ _ (by intro c h; cases h)]
  have hmap : xs.map a.eval = vs.toArray := by
    have := evs_map (fun x u h => ha.kn.ev h) hxs
    apply Array.ext'; simpa using this
  have hE' : Hp X w (A :: F) := hR ▸ hE
  obtain ⟨g, tmps, asg, body, hy, hround⟩ := hc w hE'
  have hrun : (execOp a.eval ⟨some d, .call ⟨.value f, xs, ats⟩, ty, p, af, none⟩).run X.s.P w = .ok (.round l g tmps asg body) w := by
    simp only [execOp, resolve, hmap, ha.kn.ev hf, Deferred.ofValue, Sem.run_bind, run_pure', Result.andThen_ok, invoke]
    simpa using hy
  rw [hrun, Oper.uponIn_round]
  refine ⟨fun h => by simp [Fence.wide] at h, ?_⟩
  rw [hro, hn]
  refine RoundIn.mono hround ?_
  rintro e w' ⟨y, hp, rfl, E⟩
  refine hK _ _ (k y hp _ _ (ha.put hN _) ?_)
  unfold Hp at hE' ⊢
  rw [List.flatten_cons] at hE'
  have := Eff.seq hE' E
  rw [List.flatten_append]; exact this
/-- The record of a loop. -/
abbrev rec (fn : FuncId) (tm : Array Value) (ps : Array Tmp) (assign body : Code) (D : Nat) (st : LoopState) (pe : Option Code) : Obj := .loop { state := st, pending := pe, fn, tmps := tm, params := ps, assign, body, defers := D }

/-- A round, out of the walk of its assignment and its body. -/
theorem round_sp {s : Sx} {Y : Type} {l D : Nat} {fn : FuncId} {tm : Array Value} {ps : Array Tmp} {asg body : Code} {N : Nat} {args : List Value} {w : World} {A B : HL} {A' : Y → HL} {post : Y → Prop} {L1 : LT}
    (hE : Eff w ((l, rec fn tm ps asg body D .ready none) :: A) w ((l, rec fn tm ps asg body D .ready none) :: A)) (hsz : args.length = ps.size) (htm : tm.size = N)
    (hL : Kn { tmps := (ps.zip args.toArray).foldl (fun t (q : Tmp × Value) => t.setIfInBounds q.1 q.2) tm, defers := [] } L1)
    (h : GC ⟨s, some l, 0, N, [], w, (l, rec fn tm ps asg body D .ready none) :: A⟩ asg
      (Exit.then (fun a1 w1 => ∃ w2, (Instr.beginRound l).run s.P w1 = .ok () w2 ∧ body.wpIn (Fr (some l)) 0 s.P (roundPost s.P l (fun e w' => ∃ y, post y ∧ e = .returned (.bool true) ∧ Eff w ((l, rec fn tm ps asg body D .ready none) :: A) w' ((l, rec fn tm ps asg body D .ready none) :: A' y))) a1 w2) (fun _ _ _ => False))
      L1 [[(l, rec fn tm ps asg body D .ready none)], A]) :
    Yp s.P l args w ((l, rec fn tm ps asg body D .ready none) :: A) (fun _ : Y => .bool true) (fun y => [(l, rec fn tm ps asg body D .ready none) :: A' y]) post := by
  have hl := hE.holds l _ List.mem_cons_self
  have hg := run_getObj (P := s.P) hl (by intro c e f h; cases h)
  refine ⟨fn, (ps.zip args.toArray).foldl (fun t (q : Tmp × Value) => t.setIfInBounds q.1 q.2) tm, asg, body, ?_, ?_⟩
  · simp only [Instr.yield, Instr.getLoop, Sem.run_bind, hg, Result.andThen_ok, run_pure']
    simp [hsz]
  · have hz : ∀ (zs : List (Tmp × Value)) (t : Array Value), (zs.foldl (fun t (q : Tmp × Value) => t.setIfInBounds q.1 q.2) t).size = t.size := fun zs => by
      induction zs with
      | nil => intro t; rfl
      | cons q zs ih => intro t; rw [List.foldl_cons, ih]; simp
    have hsize : ((ps.zip args.toArray).foldl (fun t (q : Tmp × Value) => t.setIfInBounds q.1 q.2) tm).size = N := by
      rw [← htm, ← Array.foldl_toList]; exact hz _ _
    have h1 := h _ w ⟨hsize, rfl, hL⟩ (by simpa [Hp] using hE)
    exact RoundIn.mono (roundIn_of_wpIn (F := Fr none) (n := 0) (by simp [Fence.wide]) h1) (fun e w' ⟨y, hp, he, E⟩ => ⟨y, hp, he, by simpa using E⟩)
abbrev mark (D : Nat) : Deferred := { target := .collected D, args := #[] }
abbrev mks (Ds : List Nat) : List Deferred := Ds.map mark
abbrev mkb (Ds : List Nat) : HL := Ds.map fun D => (D, .deferred (some []))
/-- for .. := range g { .. }. -/
theorem gc_range {g : Operand} {ps : Array Tmp} {asg body : Code} {gf : FuncId} {cp : Array Value} {Y : Type} {post : Y → Prop} {A' : Y → HL} {A : HL} {F : RL} (hro : X.ro = none) (hn : X.n = 0) (hR : R = A :: F)
    (hg : ev L g = some (.func (.func gf) #[] cp)) (hcl : Cl X.s.P gf)
    (hit : ∀ l D fn tm w, tm.size = X.N → Kn { tmps := tm, defers := [] } L → Hp X w (((l, rec fn tm ps asg body D .ready none) :: A) :: [(D, .deferred (some []))] :: F) →
      Sp X.s.P gf (.func (.yield l) #[] #[] :: cp.toList) w ((l, rec fn tm ps asg body D .ready none) :: A) (fun _ : Y => .tuple #[]) (fun y => [(l, rec fn tm ps asg body D .ready none) :: A' y]) post)
    (k : ∀ D y, post y → GQ (wd X (mark D :: X.ds)) Q .normal L (A' y :: [(D, .deferred (some []))] :: F)) : GC X (.rangeFunc g ps asg body) Q L R := by
  intro a w ha hE
  rw [hR] at hE
  refine wpIn_rangeFunc (fun fn hfn => ?_)
  let D := w.heap.size
  let w1 := w.alloc (.deferred (some []))
  let l := w1.heap.size
  let r := rec fn a.tmps ps asg body D .ready none
  let w2 := w1.alloc r
  have hE1 : Hp X w1 ([(D, .deferred (some []))] :: A :: F) := by
    have := Eff.seq0 hE (Eff.alloc w (.deferred (some [])))
    unfold Hp; simpa using this
  have hE2 : Hp X w2 ([(l, r)] :: [(D, .deferred (some []))] :: A :: F) := by
    have := Eff.seq0 hE1 (Eff.alloc w1 r)
    unfold Hp; simpa using this
  have hE3 : Hp X w2 (((l, r) :: A) :: [(D, .deferred (some []))] :: F) := hp_cnt [] hE2 (fun x => by
    simp only [List.flatten_cons, List.flatten_nil, List.count_append, List.count_cons, List.count_nil, List.append_nil]; omega)
  have hkn : Kn { tmps := a.tmps, defers := [] } L := fun i v h => ha.kn i v h
  have hsp := hit l D fn a.tmps w2 ha.size hkn hE3
  refine ⟨l, [mark D], w2, ⟨.fn (.func gf) cp, #[.func (.yield l) #[] #[]]⟩, w2, gf, (.func (.yield l) #[] #[] :: cp.toList).toArray, w2, ?_, ?_, ?_, ?_, ?_, ?_⟩
  · show (Instr.enterLoop fn a.tmps ps asg body X.ro).run X.s.P w = _
    rw [hro]
    simp only [Instr.enterLoop, Sem.run_bind, run_newObj_alloc, Result.andThen_ok, run_pure']
    rfl
  · simp only [resolve, rangeCall, ha.kn.ev hg, Deferred.ofValue, run_pure']
    simp [Act.eval]
  · intro f' _; trivial
  · show (callFunc gf (#[Value.func (.yield l) #[] #[]] ++ cp)).run X.s.P w2 = _
    have e : (#[Value.func (.yield l) #[] #[]] ++ cp) = (Value.func (.yield l) #[] #[] :: cp.toList).toArray := by apply Array.ext'; simp
    rw [e]; exact hcl _ _
  · intro h; simp [Fence.wide] at h
  · have h1 : CallsIn Fence.wide (X.n - 1) X.s.P gf (.func (.yield l) #[] #[] :: cp.toList).toArray w2 (fun e w' => ∃ y, post y ∧ e = .returned (.tuple #[]) ∧ Eff w2 ((l, r) :: A) w' [(l, r) :: A' y].flatten) := callsIn_wide.2 hsp
    have h2 : CallsIn (Fr X.ro) (X.n - 1) X.s.P gf (.func (.yield l) #[] #[] :: cp.toList).toArray w2 (fun e w' => ∃ y, post y ∧ e = .returned (.tuple #[]) ∧ Eff w2 ((l, r) :: A) w' [(l, r) :: A' y].flatten) := by rw [hro]; exact h1
    refine CallsIn.mono h2 ?_
    rintro e w3 ⟨y, hp, rfl, E⟩
    have hE4 : Hp X w3 (((l, r) :: A' y) :: [(D, .deferred (some []))] :: F) := by
      unfold Hp at hE3 ⊢
      rw [List.flatten_cons] at hE3
      have := Eff.seq hE3 E
      simpa using this
    have hl : w3.heap[l]? = some (rec fn a.tmps ps asg body D .ready none) := hE4.holds l r (by simp)
    have hE5 := Eff.setObj (o' := rec fn a.tmps ps asg body D .exhausted none) hl
    have hE6 : Hp X w3 ([(l, r)] :: A' y :: [(D, .deferred (some []))] :: F) := hp_cnt [] hE4 (fun x => by
      simp only [List.flatten_cons, List.flatten_nil, List.count_append, List.count_cons, List.count_nil, List.append_nil]; omega)
    have hE7 : Hp X { w3 with heap := w3.heap.setIfInBounds l (rec fn a.tmps ps asg body D .exhausted none) } (A' y :: [(D, .deferred (some []))] :: F) := by
      unfold Hp at hE6
      rw [List.flatten_cons] at hE6
      exact hp_tail (A := [(l, rec fn a.tmps ps asg body D .exhausted none)]) (by unfold Hp; rw [List.flatten_cons]; exact Eff.seq hE6 hE5)
    refine ⟨none, _, ?_, k D y hp { a with defers := [mark D] ++ a.defers } _ ⟨ha.size, by show [mark D] ++ a.defers = _; rw [ha.defers]; rfl, ha.kn⟩ hE7⟩
    have hg' := run_getObj (P := X.s.P) hl (by intro c e f h; cases h)
    have hs' := run_setObj (P := X.s.P) hl (by intro c e f h; cases h) (rec fn a.tmps ps asg body D .exhausted none)
    simp only [Instr.endLoop, Instr.getLoop, Sem.run_bind, hg', Result.andThen_ok, run_pure']
    simp only [beq_iff_eq, reduceCtorEq, if_false, Sem.run_bind, run_pure', Result.andThen_ok, hs']
/-- The beginning of a round. -/
theorem gq_begin {l D : Nat} {fn : FuncId} {tm : Array Value} {ps : Array Tmp} {asg body : Code} {Q' : Post} {F : RL} (hR : R = [(l, rec fn tm ps asg body D .ready none)] :: F)
    (h : GC X body Q' L ([(l, rec fn tm ps asg body D .busy none)] :: F)) :
    GQ X (Exit.then (fun a1 w1 => ∃ w2, (Instr.beginRound l).run X.s.P w1 = .ok () w2 ∧ body.wpIn (Fr X.ro) X.n X.s.P Q' a1 w2) Q) .normal L R := by
  intro a w ha hE
  rw [hR] at hE
  have hl : w.heap[l]? = some (rec fn tm ps asg body D .ready none) := hE.holds l _ (by simp)
  have hg' := run_getObj (P := X.s.P) hl (by intro c e f h; cases h)
  have hs' := run_setObj (P := X.s.P) hl (by intro c e f h; cases h) (rec fn tm ps asg body D .busy none)
  refine ⟨{ w with heap := w.heap.setIfInBounds l (rec fn tm ps asg body D .busy none) }, ?_, h a _ ha ?_⟩
  · simp only [Instr.beginRound, Instr.getLoop, Sem.run_bind, hg', Result.andThen_ok, run_pure', hs']
  · unfold Hp at hE ⊢
    rw [List.flatten_cons] at hE ⊢
    exact Eff.seq hE (Eff.setObj hl)
/-- The end of a round. -/
theorem gq_endRound {l D : Nat} {fn : FuncId} {tm : Array Value} {ps : Array Tmp} {asg body : Code} {F : RL} {Y : Type} {post : Y → Prop} {A' : Y → HL} (hR : R = [(l, rec fn tm ps asg body D .busy none)] :: F) (y : Y) (hp : post y)
    (hF : ∀ w, Hp X w ([(l, rec fn tm ps asg body D .ready none)] :: F) → Hp X w [(l, rec fn tm ps asg body D .ready none) :: A' y]) :
    GQ X (roundPost X.s.P l (fun e w' => ∃ y, post y ∧ e = .returned (.bool true) ∧ Eff X.w0 X.A0 w' ((l, rec fn tm ps asg body D .ready none) :: A' y))) .normal L R := by
  intro a w ha hE
  rw [hR] at hE
  have hl : w.heap[l]? = some (rec fn tm ps asg body D .busy none) := hE.holds l _ (by simp)
  have hg' := run_getObj (P := X.s.P) hl (by intro c e f h; cases h)
  have hs' := run_setObj (P := X.s.P) hl (by intro c e f h; cases h) (rec fn tm ps asg body D .ready none)
  refine ⟨.bool true, { w with heap := w.heap.setIfInBounds l (rec fn tm ps asg body D .ready none) }, ?_, y, hp, rfl, ?_⟩
  · simp only [Instr.endRound, Instr.getLoop, Sem.run_bind, hg', Result.andThen_ok, run_pure', Option.isNone_none, if_true, hs']
  · have : Hp X { w with heap := w.heap.setIfInBounds l (rec fn tm ps asg body D .ready none) } ([(l, rec fn tm ps asg body D .ready none)] :: F) := by
      unfold Hp at hE ⊢
      rw [List.flatten_cons] at hE ⊢
      exact Eff.seq hE (Eff.setObj hl)
    simpa [Hp] using hF _ this
/-- All marks are taken in. -/
theorem leaves_marks {s : Sx} {fn : Func} {tm : Array Value} {Rp : Ending → World → Prop} {w0 : World} {A0 : HL} (B : HL) : ∀ (Ds : List Nat) (w : World), Eff w0 A0 w (mkb Ds ++ B) →
    (∀ w', Eff w0 A0 w' B → ∃ v, (results fn tm).run s.P w' = .ok v w' ∧ Rp (.returned v) w') → LeavesInM Fence.wide 0 s.P fn tm Rp (mks Ds) .returning w
  | [], w, E, h => h w E
  | D :: Ds, w, E, h => by
    have hl : w.heap[D]? = some (.deferred (some [])) := E.holds D _ (by simp)
    have hg' := run_getObj (P := s.P) hl (by intro c e f h; cases h)
    have hs' := run_setObj (P := s.P) hl (by intro c e f h; cases h) (.deferred none)
    refine ⟨(by intro h; cases h), .inl ⟨D, { w with heap := w.heap.setIfInBounds D (.deferred none) }, rfl, ?_, leaves_marks B Ds _ ?_ h⟩⟩
    · simp only [Instr.takeDeferred, Sem.run_bind, hg', Result.andThen_ok, run_pure', hs']
    · have := Eff.seq (X := [(D, .deferred (some []))]) (F := mkb Ds ++ B) (by simpa using E) (Eff.setObj (o' := .deferred none) hl)
      exact Eff.sel this [(D, .deferred none)] List.perm_append_comm
theorem enterM {s : Sx} {f : FuncId} {fn : Func} {c : Code} {args : List Value} {w : World} {Rp : Ending → World → Prop} (A0 : RL) {A : HL} {N : Nat} (hA : A0.flatten = A)
    (hf : s.P.funcs[f]? = some fn) (hb : fn.body = some c) (hN : fn.ntmps = N) (hlen : Nat.ble args.length N = true)
    (hE : Eff w A w A)
    (h : GC ⟨s, none, 0, N, [], w, A⟩ c (bodyPostM Fence.wide 0 s.P fn Rp) (zipL 0 args) A0) : Calls s.P f args.toArray w Rp := by
  subst hA
  have hle := Nat.le_of_ble_eq_true hlen
  refine callsIn_wide.1 (callsIn_of_wp_marks (F := Fence.wide) (n := 0) hf hb trivial ?_)
  refine h _ w ⟨?_, rfl, ?_⟩ hE
  · simp [hN]; omega
  · intro i v hi
    obtain ⟨j, rfl, hj⟩ := lk_zipL args 0 i v hi
    have hlt : j < args.length := (List.getElem?_eq_some_iff.1 hj).1
    simp only [Nat.zero_add, Array.getD_eq_getD_getElem?]
    rw [Array.getElem?_append_left (by simpa using hlt)]
    simp [hj]
theorem gq_ret1M {e : Exit} {fn : Func} {Rp : Ending → World → Prop} (he : e = .normal ∨ e = .ret) (Ds : List Nat) (hds : X.ds = mks Ds) {F : RL} (hR : ∀ w, Hp X w R → Hp X w (mkb Ds :: F)) {t : Tmp} (hfn : fn.results = #[.tmp t]) {v : Value} (hv : lk L t = some v)
    (k : ∀ w, Hp X w F → Rp (.returned v) w) : GQ X (bodyPostM Fence.wide 0 X.s.P fn Rp) e L R := by
  intro a w ha hE
  have key : LeavesInM Fence.wide 0 X.s.P fn a.tmps Rp a.defers .returning w := by
    rw [ha.defers, hds]
    exact leaves_marks F.flatten Ds w (by have := hR w hE; unfold Hp at this; simpa using this) (fun w' E => ⟨v, by rw [results_tmp hfn, ha.kn _ _ hv], k w' E⟩)
  rcases he with rfl | rfl <;> exact key
end
end Go.Wk

/- A reckoner for closed calls: trees by number; values whose blocks bear numbers of their own, and what they stand for. -/
namespace Go.Ev
open Go.Wk
set_option linter.unusedVariables false
set_option linter.unusedSimpArgs false

/-! ### Trees by number -/
inductive Tr (α : Type) where
  | e
  | n (l : Tr α) (v : Option α) (r : Tr α)

def Tr.get {α : Type} : Tr α → Nat → Option α
  | .e, _ => none
  | .n l v r, k => bif Nat.beq k 0 then v else bif Nat.beq (Nat.mod (Nat.sub k 1) 2) 0 then l.get (Nat.div (Nat.sub k 1) 2) else r.get (Nat.div (Nat.sub k 1) 2)

def Tr.put {α : Type} (x : Option α) : Nat → Tr α → Nat → Tr α
  | 0, t, _ => t
  | f + 1, .e, k => bif Nat.beq k 0 then .n .e x .e else bif Nat.beq (Nat.mod (Nat.sub k 1) 2) 0 then .n (Tr.put x f .e (Nat.div (Nat.sub k 1) 2)) none .e else .n .e none (Tr.put x f .e (Nat.div (Nat.sub k 1) 2))
  | f + 1, .n l v r, k => bif Nat.beq k 0 then .n l x r else bif Nat.beq (Nat.mod (Nat.sub k 1) 2) 0 then .n (Tr.put x f l (Nat.div (Nat.sub k 1) 2)) v r else .n l v (Tr.put x f r (Nat.div (Nat.sub k 1) 2))

theorem Tr.get_e {α : Type} (k : Nat) : (Tr.e : Tr α).get k = none := rfl
theorem Tr.get_n {α : Type} (l : Tr α) (v : Option α) (r : Tr α) (k : Nat) : (Tr.n l v r).get k = if k = 0 then v else if (k - 1) % 2 = 0 then l.get ((k - 1) / 2) else r.get ((k - 1) / 2) := by
  show (bif Nat.beq k 0 then v else bif Nat.beq ((k - 1) % 2) 0 then l.get ((k - 1) / 2) else r.get ((k - 1) / 2)) = _
  by_cases h : k = 0
  · subst h; rfl
  · have : Nat.beq k 0 = false := by cases hk : Nat.beq k 0 with
      | false => rfl
      | true => exact absurd (Nat.eq_of_beq_eq_true hk) h
    rw [this, if_neg h]
    by_cases h2 : (k - 1) % 2 = 0
    · rw [if_pos h2, h2]; rfl
    · have : Nat.beq ((k - 1) % 2) 0 = false := by cases hk : Nat.beq ((k - 1) % 2) 0 with
        | false => rfl
        | true => exact absurd (Nat.eq_of_beq_eq_true hk) h2
      rw [this, if_neg h2]; rfl

theorem Tr.put_e {α : Type} (x : Option α) (f k : Nat) : Tr.put x (f + 1) (.e : Tr α) k = if k = 0 then .n .e x .e else if (k - 1) % 2 = 0 then .n (Tr.put x f .e ((k - 1) / 2)) none .e else .n .e none (Tr.put x f .e ((k - 1) / 2)) := by
  show (bif Nat.beq k 0 then Tr.n Tr.e x Tr.e else bif Nat.beq ((k - 1) % 2) 0 then Tr.n (Tr.put x f .e ((k - 1) / 2)) none .e else Tr.n .e none (Tr.put x f .e ((k - 1) / 2))) = _
  by_cases h : k = 0
  · subst h; rfl
  · have : Nat.beq k 0 = false := by cases hk : Nat.beq k 0 with
      | false => rfl
      | true => exact absurd (Nat.eq_of_beq_eq_true hk) h
    rw [this, if_neg h]
    by_cases h2 : (k - 1) % 2 = 0
    · rw [if_pos h2, h2]; rfl
    · have : Nat.beq ((k - 1) % 2) 0 = false := by cases hk : Nat.beq ((k - 1) % 2) 0 with
        | false => rfl
        | true => exact absurd (Nat.eq_of_beq_eq_true hk) h2
      rw [this, if_neg h2]; rfl
theorem Tr.put_n {α : Type} (x : Option α) (f : Nat) (l : Tr α) (v : Option α) (r : Tr α) (k : Nat) : Tr.put x (f + 1) (.n l v r) k = if k = 0 then .n l x r else if (k - 1) % 2 = 0 then .n (Tr.put x f l ((k - 1) / 2)) v r else .n l v (Tr.put x f r ((k - 1) / 2)) := by
  show (bif Nat.beq k 0 then Tr.n l x r else bif Nat.beq ((k - 1) % 2) 0 then Tr.n (Tr.put x f l ((k - 1) / 2)) v r else Tr.n l v (Tr.put x f r ((k - 1) / 2))) = _
  by_cases h : k = 0
  · subst h; rfl
  · have : Nat.beq k 0 = false := by cases hk : Nat.beq k 0 with
      | false => rfl
      | true => exact absurd (Nat.eq_of_beq_eq_true hk) h
    rw [this, if_neg h]
    by_cases h2 : (k - 1) % 2 = 0
    · rw [if_pos h2, h2]; rfl
    · have : Nat.beq ((k - 1) % 2) 0 = false := by cases hk : Nat.beq ((k - 1) % 2) 0 with
        | false => rfl
        | true => exact absurd (Nat.eq_of_beq_eq_true hk) h2
      rw [this, if_neg h2]; rfl

theorem Tr.get_put {α : Type} (x : Option α) : ∀ (f : Nat) (t : Tr α) (k j : Nat), k + 1 < 2 ^ f → (Tr.put x f t k).get j = if j = k then x else t.get j
  | 0, t, k, j, h => by simp at h
  | f + 1, .e, k, j, h => by
    rw [Tr.put_e]
    by_cases hk : k = 0
    · subst hk; rw [if_pos rfl, Tr.get_n]
      by_cases hj : j = 0
      · simp [hj]
      · simp [hj, Tr.get_e]
    · rw [if_neg hk]
      have hb : (k - 1) / 2 + 1 < 2 ^ f := by have : 2 ^ (f + 1) = 2 * 2 ^ f := by rw [Nat.pow_succ]; omega
                                              omega
      by_cases hp : (k - 1) % 2 = 0
      · rw [if_pos hp, Tr.get_n]
        by_cases hj : j = 0
        · subst hj; rw [if_pos rfl, if_neg (Ne.symm hk)]; rfl
        · rw [if_neg hj]
          by_cases hq : (j - 1) % 2 = 0
          · rw [if_pos hq, Tr.get_put x f .e _ _ hb, Tr.get_e, Tr.get_e]
            by_cases he : j = k
            · subst he; simp
            · rw [if_neg he, if_neg (by omega)]
          · rw [if_neg hq, if_neg (by intro h; subst h; omega)]; rfl
      · rw [if_neg hp, Tr.get_n]
        by_cases hj : j = 0
        · subst hj; rw [if_pos rfl, if_neg (Ne.symm hk)]; rfl
        · rw [if_neg hj]
          by_cases hq : (j - 1) % 2 = 0
          · rw [if_pos hq, if_neg (by intro h; subst h; omega)]; rfl
          · rw [if_neg hq, Tr.get_put x f .e _ _ hb, Tr.get_e, Tr.get_e]
            by_cases he : j = k
            · subst he; simp
            · rw [if_neg he, if_neg (by omega)]
  | f + 1, .n l v r, k, j, h => by
    rw [Tr.put_n]
    by_cases hk : k = 0
    · subst hk; rw [if_pos rfl, Tr.get_n, Tr.get_n]
      by_cases hj : j = 0
      · simp [hj]
      · simp [hj]
    · rw [if_neg hk]
      have hb : (k - 1) / 2 + 1 < 2 ^ f := by have : 2 ^ (f + 1) = 2 * 2 ^ f := by rw [Nat.pow_succ]; omega
                                              omega
      by_cases hp : (k - 1) % 2 = 0
      · rw [if_pos hp, Tr.get_n, Tr.get_n]
        by_cases hj : j = 0
        · subst hj; rw [if_pos rfl, if_neg (Ne.symm hk), if_pos rfl]
        · rw [if_neg hj, if_neg hj]
          by_cases hq : (j - 1) % 2 = 0
          · rw [if_pos hq, if_pos hq, Tr.get_put x f l _ _ hb]
            by_cases he : j = k
            · subst he; simp
            · rw [if_neg he, if_neg (by omega)]
          · rw [if_neg hq, if_neg hq, if_neg (by intro h; subst h; omega)]
      · rw [if_neg hp, Tr.get_n, Tr.get_n]
        by_cases hj : j = 0
        · subst hj; rw [if_pos rfl, if_neg (Ne.symm hk), if_pos rfl]
        · rw [if_neg hj, if_neg hj]
          by_cases hq : (j - 1) % 2 = 0
          · rw [if_pos hq, if_pos hq, if_neg (by intro h; subst h; omega)]
          · rw [if_neg hq, if_neg hq, Tr.get_put x f r _ _ hb]
            by_cases he : j = k
            · subst he; simp
            · rw [if_neg he, if_neg (by omega)]

def TOP : Nat := 1099511627776
def Tr.set {α : Type} (t : Tr α) (k : Nat) (x : Option α) : Tr α := Tr.put x 40 t k
theorem Tr.get_set {α : Type} {t : Tr α} {k : Nat} (x : Option α) (h : Nat.blt (Nat.succ k) TOP = true) (j : Nat) : (t.set k x).get j = if j = k then x else t.get j :=
  Tr.get_put x 40 t k j (by have h1 : k + 1 < TOP := Nat.lt_of_lt_of_le (Nat.lt_succ_self _) (Nat.le_of_ble_eq_true h); exact h1)
/-- Out of a row. -/
def Tr.of {α : Type} : List (Nat × α) → Tr α
  | [] => .e
  | (k, v) :: r => (Tr.of r).set k (some v)

/-! ### Coded values -/
/-- Where a block of one's own lies: its number; for one that may grow, how many elements it holds, and the cells behind those that are told. -/
structure Loc where
  ad : Nat
  cap : Nat
  sp : List Value
abbrev Env := List (Nat × Loc)
def lcE : Env → Nat → Option Loc
  | [], _ => none
  | (j, l) :: r, k => bif Nat.beq j k then some l else lcE r k
theorem lcE_app {ρ : Env} (τ : Env) {k : Nat} {l : Loc} (h : lcE ρ k = some l) : lcE (ρ ++ τ) k = some l := by
  induction ρ with
  | nil => cases h
  | cons x r ih =>
    obtain ⟨j, m⟩ := x
    simp only [List.cons_append, lcE] at h ⊢
    cases hb : Nat.beq j k with
    | true => rw [hb, cond_true] at h; exact h
    | false => rw [hb, cond_false] at h; rw [cond_false]; exact ih h
theorem lcE_none {ρ : Env} (τ : Env) {k : Nat} (h : lcE ρ k = none) : lcE (ρ ++ τ) k = lcE τ k := by
  induction ρ with
  | nil => rfl
  | cons x r ih =>
    obtain ⟨j, m⟩ := x
    simp only [List.cons_append, lcE] at h ⊢
    cases hb : Nat.beq j k with
    | true => rw [hb] at h; cases h
    | false => rw [hb, cond_false] at h; rw [cond_false]; exact ih h
theorem lcE_new {ρ : Env} {k : Nat} (l : Loc) (h : lcE ρ k = none) : lcE (ρ ++ [(k, l)]) k = some l := by
  rw [lcE_none _ h]
  simp only [lcE, Nat.beq_refl, cond_true]
theorem lcE_other {ρ : Env} {k j : Nat} {l : Loc} (h : k ≠ j) : lcE (ρ ++ [(j, l)]) k = lcE ρ k := by
  cases hq : lcE ρ k with
  | some m => exact lcE_app _ hq
  | none =>
    rw [lcE_none _ hq]
    simp only [lcE]
    cases hb : Nat.beq j k with
    | true => exact absurd (Nat.eq_of_beq_eq_true hb).symm h
    | false => rfl
def BB : Nat := 1152921504606846976
def CC : Nat := 1180591620717411303424

def cad (ρ : Env) (b : Nat) : Option Nat := bif Nat.ble BB b then (lcE ρ (b - BB)).map Loc.ad else some b
def cA (ρ : Env) (a : Addr) : Option Addr := (cad ρ a.block).map fun b => ⟨b, a.off, a.spot⟩
def ccap (ρ : Env) (b c : Nat) : Option Nat := bif Nat.ble CC c then (bif Nat.ble BB b then (lcE ρ (b - BB)).map (fun l => l.cap - (c - CC)) else none) else some c
def cfn (ρ : Env) : Fn → Option Fn
  | .yield l => (cad ρ l).map .yield
  | f => some f

mutual
def conc (ρ : Env) : Value → Option Value
  | .bool b => some (.bool b)
  | .int k n => some (.int k n)
  | .float k n => some (.float k n)
  | .complex k a b => some (.complex k a b)
  | .string s => some (.string s)
  | .pointer none => some (.pointer none)
  | .pointer (some a) => (cA ρ a).map fun a => .pointer (some a)
  | .slice none n c => some (.slice none n c)
  | .slice (some a) n c => match cA ρ a, ccap ρ a.block c with
    | some a', some c' => bif Nat.ble n c' then some (.slice (some a') n c') else none
    | _, _ => none
  | .map none => some (.map none)
  | .map (some r) => (cad ρ r).map fun r => .map (some r)
  | .chan none => some (.chan none)
  | .chan (some _) => none
  | .func fn l m => match cfn ρ fn, concA ρ l, concA ρ m with
    | some fn', some l', some m' => some (.func fn' l' m')
    | _, _, _ => none
  | .nilFunc => some .nilFunc
  | .iface t v => (conc ρ v).map fun v => .iface t v
  | .nilIface => some .nilIface
  | .agg l => (concA ρ l).map .agg
  | .tuple l => (concA ρ l).map .tuple
def concA (ρ : Env) : Array Value → Option (Array Value)
  | ⟨l⟩ => (concs ρ l).map (⟨·⟩)
def concs (ρ : Env) : List Value → Option (List Value)
  | [] => some []
  | v :: r => match conc ρ v, concs ρ r with
    | some u, some us => some (u :: us)
    | _, _ => none
end

/-! ### Laws of coding -/
theorem concs_nil (ρ : Env) : concs ρ [] = some [] := by simp [concs]
theorem concs_cons {ρ : Env} {v : Value} {r us : List Value} : concs ρ (v :: r) = some us ↔ ∃ u t, conc ρ v = some u ∧ concs ρ r = some t ∧ us = u :: t := by
  simp only [concs]
  split
  · rename_i u t h1 h2
    constructor
    · intro h; cases h; exact ⟨u, t, h1, h2, rfl⟩
    · rintro ⟨u', t', h3, h4, rfl⟩
      rw [h1] at h3; rw [h2] at h4; cases h3; cases h4; rfl
  · rename_i hn
    constructor
    · intro h; cases h
    · rintro ⟨u, t, h1, h2, _⟩
      exact absurd h2 (hn u t h1)
theorem concA_mk {ρ : Env} {l : List Value} {us : Array Value} : concA ρ ⟨l⟩ = some us ↔ concs ρ l = some us.toList := by
  simp only [concA]
  cases h : concs ρ l with
  | none => simp
  | some t => constructor
              · intro h; cases h; rfl
              · intro h; cases h; rfl
theorem concA_iff {ρ : Env} {a us : Array Value} : concA ρ a = some us ↔ concs ρ a.toList = some us.toList := by
  cases a; exact concA_mk
theorem concs_len {ρ : Env} : ∀ {l us : List Value}, concs ρ l = some us → us.length = l.length
  | [], us, h => by rw [concs_nil] at h; cases h; rfl
  | v :: r, us, h => by
    obtain ⟨u, t, _, h2, rfl⟩ := concs_cons.1 h
    simp [concs_len h2]
theorem concs_get {ρ : Env} : ∀ {l us : List Value}, concs ρ l = some us → ∀ {i : Nat} {v : Value}, l[i]? = some v → ∃ u, us[i]? = some u ∧ conc ρ v = some u
  | [], us, h, i, v, hi => by simp at hi
  | v :: r, us, h, 0, x, hi => by
    obtain ⟨u, t, h1, h2, rfl⟩ := concs_cons.1 h
    simp at hi; subst hi; exact ⟨u, rfl, h1⟩
  | v :: r, us, h, i + 1, x, hi => by
    obtain ⟨u, t, h1, h2, rfl⟩ := concs_cons.1 h
    simp only [List.getElem?_cons_succ] at hi ⊢
    exact concs_get h2 hi
theorem concs_app {ρ : Env} : ∀ {l m us vs : List Value}, concs ρ l = some us → concs ρ m = some vs → concs ρ (l ++ m) = some (us ++ vs)
  | [], m, us, vs, h, h' => by rw [concs_nil] at h; cases h; exact h'
  | v :: r, m, us, vs, h, h' => by
    obtain ⟨u, t, h1, h2, rfl⟩ := concs_cons.1 h
    exact concs_cons.2 ⟨u, _, h1, concs_app h2 h', rfl⟩
theorem concs_take {ρ : Env} : ∀ {l us : List Value} (n : Nat), concs ρ l = some us → concs ρ (l.take n) = some (us.take n)
  | l, us, 0, h => by simp [concs_nil]
  | [], us, n + 1, h => by rw [concs_nil] at h; cases h; simp [concs_nil]
  | v :: r, us, n + 1, h => by
    obtain ⟨u, t, h1, h2, rfl⟩ := concs_cons.1 h
    exact concs_cons.2 ⟨u, _, h1, concs_take n h2, rfl⟩
theorem concs_drop {ρ : Env} : ∀ {l us : List Value} (n : Nat), concs ρ l = some us → concs ρ (l.drop n) = some (us.drop n)
  | l, us, 0, h => by simpa using h
  | [], us, n + 1, h => by rw [concs_nil] at h; cases h; simp [concs_nil]
  | v :: r, us, n + 1, h => by
    obtain ⟨u, t, h1, h2, rfl⟩ := concs_cons.1 h
    exact concs_drop n h2
theorem concs_set {ρ : Env} {v u : Value} (hv : conc ρ v = some u) : ∀ {l us : List Value} (n : Nat), concs ρ l = some us → concs ρ (l.set n v) = some (us.set n u)
  | [], us, n, h => by rw [concs_nil] at h; cases h; simp [concs_nil]
  | x :: r, us, 0, h => by
    obtain ⟨y, t, h1, h2, rfl⟩ := concs_cons.1 h
    exact concs_cons.2 ⟨u, _, hv, h2, rfl⟩
  | x :: r, us, n + 1, h => by
    obtain ⟨y, t, h1, h2, rfl⟩ := concs_cons.1 h
    exact concs_cons.2 ⟨y, _, h1, concs_set hv n h2, rfl⟩
theorem concs_rep {ρ : Env} {v u : Value} (hv : conc ρ v = some u) : ∀ (n : Nat), concs ρ (List.replicate n v) = some (List.replicate n u)
  | 0 => concs_nil ρ
  | n + 1 => concs_cons.2 ⟨u, _, hv, concs_rep hv n, rfl⟩
theorem concs_one {ρ : Env} {v u : Value} (hv : conc ρ v = some u) : concs ρ [v] = some [u] := concs_cons.2 ⟨u, [], hv, concs_nil ρ, rfl⟩

theorem conc_func {ρ : Env} {fn fn' : Fn} {l l' m m' : List Value} (hf : cfn ρ fn = some fn') (h : concs ρ l = some l') (h' : concs ρ m = some m') : conc ρ (.func fn ⟨l⟩ ⟨m⟩) = some (.func fn' ⟨l'⟩ ⟨m'⟩) := by
  simp only [conc, concA, h, h', hf, Option.map_some]
theorem conc_int (ρ : Env) (k : IntKind) (n : Int) : conc ρ (.int k n) = some (.int k n) := by simp [conc]
theorem conc_bool (ρ : Env) (b : Bool) : conc ρ (.bool b) = some (.bool b) := by simp [conc]
theorem conc_str (ρ : Env) (b : ByteArray) : conc ρ (.string b) = some (.string b) := by simp [conc]
theorem conc_sn (ρ : Env) (n c : Nat) : conc ρ (.slice none n c) = some (.slice none n c) := by simp [conc]
theorem conc_pn (ρ : Env) : conc ρ (.pointer none) = some (.pointer none) := by simp [conc]
theorem conc_agg {ρ : Env} {l l' : List Value} (h : concs ρ l = some l') : conc ρ (.agg ⟨l⟩) = some (.agg ⟨l'⟩) := by
  simp only [conc, concA, h, Option.map_some]
theorem conc_tuple {ρ : Env} {l l' : List Value} (h : concs ρ l = some l') : conc ρ (.tuple ⟨l⟩) = some (.tuple ⟨l'⟩) := by
  simp only [conc, concA, h, Option.map_some]

theorem cad_mono {ρ : Env} (τ : Env) {b c : Nat} (h : cad ρ b = some c) : cad (ρ ++ τ) b = some c := by
  unfold cad at h ⊢
  cases hb : Nat.ble BB b with
  | true =>
    rw [hb] at h
    simp only [cond_true, Option.map_eq_some_iff] at h ⊢
    obtain ⟨l, h1, h2⟩ := h
    exact ⟨l, lcE_app _ h1, h2⟩
  | false => rw [hb] at h; exact h
theorem cA_mono {ρ : Env} (τ : Env) {a a' : Addr} (h : cA ρ a = some a') : cA (ρ ++ τ) a = some a' := by
  unfold cA at h ⊢
  simp only [Option.map_eq_some_iff] at h ⊢
  obtain ⟨b, h1, h2⟩ := h
  exact ⟨b, cad_mono τ h1, h2⟩
theorem ccap_mono {ρ : Env} (τ : Env) {b c c' : Nat} (h : ccap ρ b c = some c') : ccap (ρ ++ τ) b c = some c' := by
  unfold ccap at h ⊢
  cases hc : Nat.ble CC c with
  | false => rw [hc] at h; exact h
  | true =>
    rw [hc] at h
    simp only [cond_true] at h ⊢
    cases hb : Nat.ble BB b with
    | false => rw [hb] at h; cases h
    | true =>
      rw [hb] at h
      simp only [cond_true, Option.map_eq_some_iff] at h ⊢
      obtain ⟨l, h1, h2⟩ := h
      exact ⟨l, lcE_app _ h1, h2⟩
theorem cfn_mono {ρ : Env} (τ : Env) {f f' : Fn} (h : cfn ρ f = some f') : cfn (ρ ++ τ) f = some f' := by
  cases f <;> simp only [cfn] at h ⊢ <;> first | exact h | skip
  simp only [Option.map_eq_some_iff] at h ⊢
  obtain ⟨b, h1, h2⟩ := h
  exact ⟨b, cad_mono τ h1, h2⟩

theorem conc_slice {ρ : Env} {a : Addr} {n c : Nat} {u : Value} : conc ρ (.slice (some a) n c) = some u ↔ ∃ a' c', cA ρ a = some a' ∧ ccap ρ a.block c = some c' ∧ n ≤ c' ∧ u = .slice (some a') n c' := by
  simp only [conc]
  constructor
  · intro h
    split at h
    · rename_i a' c' h1 h2
      cases hb : Nat.ble n c' with
      | false => rw [hb] at h; cases h
      | true => rw [hb] at h; cases h; exact ⟨a', c', h1, h2, Nat.le_of_ble_eq_true hb, rfl⟩
    · cases h
  · rintro ⟨a', c', h1, h2, h3, rfl⟩
    rw [h1, h2]
    simp only [Nat.ble_eq_true_of_le h3, cond_true]

mutual
theorem conc_mono {ρ : Env} (τ : Env) : ∀ {v u : Value}, conc ρ v = some u → conc (ρ ++ τ) v = some u
  | .bool _, _, h => by simpa [conc] using h
  | .int _ _, _, h => by simpa [conc] using h
  | .float _ _, _, h => by simpa [conc] using h
  | .complex _ _ _, _, h => by simpa [conc] using h
  | .string _, _, h => by simpa [conc] using h
  | .pointer none, _, h => by simpa [conc] using h
  | .pointer (some a), _, h => by
    simp only [conc, Option.map_eq_some_iff] at h ⊢
    obtain ⟨b, h1, h2⟩ := h
    exact ⟨b, cA_mono τ h1, h2⟩
  | .slice none _ _, _, h => by simpa [conc] using h
  | .slice (some a) n c, u, h => by
    obtain ⟨a', c', h1, h2, h3, h4⟩ := conc_slice.1 h
    exact conc_slice.2 ⟨a', c', cA_mono τ h1, ccap_mono τ h2, h3, h4⟩
  | .map none, _, h => by simpa [conc] using h
  | .map (some r), _, h => by
    simp only [conc, Option.map_eq_some_iff] at h ⊢
    obtain ⟨b, h1, h2⟩ := h
    exact ⟨b, cad_mono τ h1, h2⟩
  | .chan none, _, h => by simpa [conc] using h
  | .chan (some _), _, h => by simp [conc] at h
  | .func fn l m, u, h => by
    simp only [conc] at h ⊢
    split at h
    · rename_i fn' l' m' h1 h2 h3
      rw [cfn_mono τ h1, concA_mono τ h2, concA_mono τ h3]; exact h
    · cases h
  | .nilFunc, _, h => by simpa [conc] using h
  | .iface t v, _, h => by
    simp only [conc, Option.map_eq_some_iff] at h ⊢
    obtain ⟨b, h1, h2⟩ := h
    exact ⟨b, conc_mono τ h1, h2⟩
  | .nilIface, _, h => by simpa [conc] using h
  | .agg l, _, h => by
    simp only [conc, Option.map_eq_some_iff] at h ⊢
    obtain ⟨b, h1, h2⟩ := h
    exact ⟨b, concA_mono τ h1, h2⟩
  | .tuple l, _, h => by
    simp only [conc, Option.map_eq_some_iff] at h ⊢
    obtain ⟨b, h1, h2⟩ := h
    exact ⟨b, concA_mono τ h1, h2⟩
theorem concA_mono {ρ : Env} (τ : Env) : ∀ {l us : Array Value}, concA ρ l = some us → concA (ρ ++ τ) l = some us
  | ⟨l⟩, us, h => concA_mk.2 (concs_mono τ (concA_mk.1 h))
theorem concs_mono {ρ : Env} (τ : Env) : ∀ {l us : List Value}, concs ρ l = some us → concs (ρ ++ τ) l = some us
  | [], _, h => by simpa [concs] using h
  | v :: r, us, h => by
    obtain ⟨u, t, h1, h2, h3⟩ := concs_cons.1 h
    exact concs_cons.2 ⟨u, t, conc_mono τ h1, concs_mono τ h2, h3⟩
end

/-- Values that speak of no memory of one's own. -/
def cst : Nat → Value → Bool
  | 0, _ => false
  | f + 1, v => match v with
    | .bool _ => true
    | .int _ _ => true
    | .float _ _ => true
    | .complex _ _ _ => true
    | .string _ => true
    | .pointer none => true
    | .pointer (some a) => Nat.blt a.block BB
    | .slice none _ _ => true
    | .slice (some a) n c => Nat.blt a.block BB && Nat.blt c CC && Nat.ble n c
    | .map none => true
    | .map (some r) => Nat.blt r BB
    | .chan none => true
    | .chan (some _) => false
    | .func fn l m => (match fn with | .yield _ => false | _ => true) && l.toList.all (cst f) && m.toList.all (cst f)
    | .nilFunc => true
    | .iface _ v => cst f v
    | .nilIface => true
    | .agg l => l.toList.all (cst f)
    | .tuple l => l.toList.all (cst f)
theorem cad_lt {ρ : Env} {b : Nat} (h : Nat.blt b BB = true) : cad ρ b = some b := by
  have h1 : b < BB := Nat.lt_of_lt_of_le (Nat.lt_succ_self _) (Nat.le_of_ble_eq_true h)
  have : Nat.ble BB b = false := by
    cases hb : Nat.ble BB b with
    | false => rfl
    | true => exact absurd (Nat.le_of_ble_eq_true hb) (by omega)
  simp [cad, this]
theorem ccap_lt {ρ : Env} {b c : Nat} (h : Nat.blt c CC = true) : ccap ρ b c = some c := by
  have h1 : c < CC := Nat.lt_of_lt_of_le (Nat.lt_succ_self _) (Nat.le_of_ble_eq_true h)
  have : Nat.ble CC c = false := by
    cases hb : Nat.ble CC c with
    | false => rfl
    | true => exact absurd (Nat.le_of_ble_eq_true hb) (by omega)
  simp [ccap, this]
theorem concs_all {ρ : Env} {p : Value → Bool} (hp : ∀ v, p v = true → conc ρ v = some v) : ∀ {l : List Value}, l.all p = true → concs ρ l = some l
  | [], _ => concs_nil ρ
  | v :: r, h => by
    simp only [List.all_cons, Bool.and_eq_true] at h
    exact concs_cons.2 ⟨v, r, hp v h.1, concs_all hp h.2, rfl⟩
theorem cst_conc {ρ : Env} : ∀ {f : Nat} {v : Value}, cst f v = true → conc ρ v = some v
  | 0, v, h => by simp [cst] at h
  | f + 1, v, h => by
    have ih : ∀ {l : List Value}, l.all (cst f) = true → concs ρ l = some l := fun h => concs_all (fun v hv => cst_conc hv) h
    have ihA : ∀ {l : Array Value}, l.toList.all (cst f) = true → concA ρ l = some l := fun {l} h => concA_iff.2 (ih h)
    cases v with
    | pointer a => cases a with
      | none => simp [conc]
      | some a => simp only [cst] at h; simp [conc, cA, cad_lt h]
    | slice a n c => cases a with
      | none => simp [conc]
      | some a => simp only [cst, Bool.and_eq_true] at h; simp [conc, cA, cad_lt h.1.1, ccap_lt h.1.2, h.2]
    | map r => cases r with
      | none => simp [conc]
      | some r => simp only [cst] at h; simp [conc, cad_lt h]
    | chan r => cases r with
      | none => simp [conc]
      | some r => simp [cst] at h
    | func fn l m =>
      simp only [cst, Bool.and_eq_true] at h
      have hf : cfn ρ fn = some fn := by cases fn <;> simp_all [cfn]
      simp only [conc, hf, ihA h.1.2, ihA h.2]
    | iface t v => simp only [cst] at h; simp [conc, cst_conc h]
    | agg l => simp only [cst] at h; simp [conc, ihA h]
    | tuple l => simp only [cst] at h; simp [conc, ihA h]
    | _ => simp [conc]
end Go.Ev

/- The reckoner's state, and how a world and a frame stand to it. -/
namespace Go.Ev
open Go.Wk
set_option linter.unusedVariables false
set_option linter.unusedSimpArgs false

structure Fm where
  N : Nat
  t : Tr Value
  ds : List Deferred

/-- The entries of functions without a body that are known: by a number. -/
def xrow (bt : TypeId) : Nat → Array Value → Sem Value
  | 0 => Extern.AbiNoEscape.same
  | 1 => Extern.BytealgIndexByte.indexByte
  | 2 => Extern.BytealgCount.count
  | 3 => Extern.BytealgMakeNoZero.makeNoZero #[] #[bt]
  | _ => fun _ => stuck "no such entry"

structure Ct where
  s : Sx
  tt : Tr Ti
  ft : Tr Func
  gl : Tr Obj
  xt : Tr Nat
  bt : TypeId
  okX : ∀ f c, xt.get f = some c → ∀ args w, (callFunc f args).run s.P w = ((xrow bt c args).run s.P w).andThen fun v w' => .ok (.value v) w'
  okL : ∀ t i, tt.get t = some i → tl s.tab t = some i
  okF : ∀ f fn, ft.get f = some fn → s.P.funcs[f]? = some fn ∧ (fn.name == "runtime.NumGoroutine") = false
  mixed : s.P.follows .mixedOrders = true
abbrev Ct.P (C : Ct) : Program := C.s.P
theorem Ct.okT (C : Ct) (t : TypeId) (i : Ti) (h : C.tt.get t = some i) : tiOf C.P t = some i := C.s.ok.at (C.okL t i h)
def Ct.X (C : Ct) : Cx := ⟨C.s, none, 0, 0, [], default, []⟩

def concD (ρ : Env) (d : Deferred) : Option Deferred := match d with
  | ⟨.fn f m, l⟩ => match cfn ρ f, concA ρ m, concA ρ l with
    | some f', some m', some l' => some ⟨.fn f' m', l'⟩
    | _, _, _ => none
  | ⟨.collected r, l⟩ => match cad ρ r, concA ρ l with
    | some r', some l' => some ⟨.collected r', l'⟩
    | _, _ => none
  | _ => none
def concDs (ρ : Env) : List Deferred → Option (List Deferred)
  | [] => some []
  | d :: r => match concD ρ d, concDs ρ r with
    | some d', some r' => some (d' :: r')
    | _, _ => none
theorem concD_mono {ρ : Env} (τ : Env) {d d' : Deferred} (h : concD ρ d = some d') : concD (ρ ++ τ) d = some d' := by
  unfold concD at h ⊢
  split at h
  · split at h
    · rename_i h1 h2 h3
      rw [cfn_mono τ h1, concA_mono τ h2, concA_mono τ h3]; exact h
    · cases h
  · split at h
    · rename_i h1 h2
      rw [cad_mono τ h1, concA_mono τ h2]; exact h
    · cases h
  · cases h
theorem concDs_mono {ρ : Env} (τ : Env) : ∀ {l us : List Deferred}, concDs ρ l = some us → concDs (ρ ++ τ) l = some us
  | [], _, h => by simpa [concDs] using h
  | d :: r, us, h => by
    simp only [concDs] at h ⊢
    split at h
    · rename_i h1 h2
      rw [concD_mono τ h1, concDs_mono τ h2]; exact h
    · cases h

/-! ### Frames -/
structure Fr (ρ : Env) (N : Nat) (fm : Fm) (a : Act) : Prop where
  nn : fm.N = N
  size : a.tmps.size = N
  kn : ∀ i v, fm.t.get i = some v → ∃ u, conc ρ v = some u ∧ a.tmps.getD i undef = u
  un : ∀ i, fm.t.get i = none → a.tmps.getD i undef = undef
  ds : concDs ρ fm.ds = some a.defers
theorem Fr.mono {ρ : Env} (τ : Env) {N : Nat} {fm : Fm} {a : Act} (h : Fr ρ N fm a) : Fr (ρ ++ τ) N fm a :=
  ⟨h.nn, h.size, fun i v hi => let ⟨u, h1, h2⟩ := h.kn i v hi; ⟨u, conc_mono τ h1, h2⟩, h.un, concDs_mono τ h.ds⟩

def evE (t : Tr Value) : Operand → Option Value
  | .tmp i => t.get i
  | .const v => bif cst 8 v then some v else none
  | .global g => bif Nat.blt g BB then some (.pointer (some ⟨g, 0, none⟩)) else none
  | .func f => some (.func (.func f) #[] #[])
theorem evE_spec {ρ : Env} {N : Nat} {fm : Fm} {a : Act} (h : Fr ρ N fm a) {x : Operand} {v : Value} (hx : evE fm.t x = some v) : ∃ u, conc ρ v = some u ∧ a.eval x = u := by
  cases x with
  | tmp i => exact h.kn i v hx
  | const c =>
    simp only [evE] at hx
    cases hc : cst 8 c with
    | false => rw [hc] at hx; cases hx
    | true => rw [hc] at hx; cases hx; exact ⟨_, cst_conc hc, rfl⟩
  | global g =>
    simp only [evE] at hx
    cases hc : Nat.blt g BB with
    | false => rw [hc] at hx; cases hx
    | true => rw [hc] at hx; cases hx; exact ⟨.pointer (some ⟨g, 0, none⟩), by simp [conc, cA, cad_lt hc], rfl⟩
  | func f => simp only [evE] at hx; cases hx; exact ⟨.func (.func f) #[] #[], by simp [conc, cfn, concA, concs], rfl⟩

def evEs (t : Tr Value) : List Operand → Option (List Value)
  | [] => some []
  | x :: r => match evE t x, evEs t r with
    | some v, some vs => some (v :: vs)
    | _, _ => none
theorem evEs_spec {ρ : Env} {N : Nat} {fm : Fm} {a : Act} (h : Fr ρ N fm a) : ∀ {xs : List Operand} {vs : List Value}, evEs fm.t xs = some vs → concs ρ vs = some (xs.map a.eval)
  | [], vs, he => by simp only [evEs] at he; cases he; exact concs_nil ρ
  | x :: r, vs, he => by
    simp only [evEs] at he
    split at he
    · rename_i v vs' h1 h2
      cases he
      obtain ⟨u, hu, he⟩ := evE_spec h h1
      exact concs_cons.2 ⟨u, _, hu, evEs_spec h h2, by simp [he]⟩
    · cases he

def Fm.put (fm : Fm) (d : Option Nat) (v : Value) : Option Fm := match d with
  | none => some fm
  | some d => bif Nat.blt d fm.N && Nat.blt (Nat.succ d) TOP then some { fm with t := fm.t.set d (some v) } else none
theorem Fr.put {ρ : Env} {N : Nat} {fm fm' : Fm} {a : Act} (h : Fr ρ N fm a) {d : Option Nat} {v u : Value} (hv : conc ρ v = some u) (he : fm.put d v = some fm') : Fr ρ N fm' (a.put d u) := by
  cases d with
  | none => simp only [Fm.put] at he; cases he; exact h
  | some d =>
    simp only [Fm.put] at he
    cases hb : (Nat.blt d fm.N && Nat.blt (Nat.succ d) TOP) with
    | false => rw [hb] at he; cases he
    | true =>
      rw [hb, cond_true] at he; cases he
      simp only [Bool.and_eq_true] at hb
      obtain ⟨hdn, hb⟩ := hb
      have hlt : d < a.tmps.size := by rw [h.size, ← h.nn]; exact Nat.lt_of_lt_of_le (Nat.lt_succ_self d) (Nat.le_of_ble_eq_true hdn)
      refine ⟨h.nn, by simp [Act.put, h.size], fun i w hi => ?_, fun i hi => ?_, by simpa [Act.put] using h.ds⟩
      rotate_left
      · rw [Tr.get_set _ hb] at hi
        by_cases hid : i = d
        · rw [if_pos hid] at hi; cases hi
        · rw [if_neg hid] at hi
          have hu := h.un i hi
          simp only [Act.put, Array.getD_eq_getD_getElem?] at hu ⊢
          rw [Array.getElem?_setIfInBounds_ne (Ne.symm hid)]
          exact hu
      rw [Tr.get_set _ hb] at hi
      by_cases hid : i = d
      · subst hid
        rw [if_pos rfl] at hi
        cases hi
        exact ⟨u, hv, by simp [Act.put, hlt]⟩
      · rw [if_neg hid] at hi
        obtain ⟨u', h1, h2⟩ := h.kn i w hi
        refine ⟨u', h1, ?_⟩
        rw [← h2]
        simp only [Act.put, Array.getD_eq_getD_getElem?]
        rw [Array.getElem?_setIfInBounds_ne (Ne.symm hid)]

/-! ### Memory -/
/-- n: the next block's number; m: the one behind it, and from there on; rs: numbers held back. -/
structure St where
  n : Nat
  m : Nat
  rs : List Nat
  h : Tr Obj

def concE (ρ : Env) : List MapEntry → Option (List MapEntry)
  | [] => some []
  | ⟨k, v, b⟩ :: r => match conc ρ k, conc ρ v, concE ρ r with
    | some k', some v', some r' => some (⟨k', v', b⟩ :: r')
    | _, _, _ => none
/-- What is frozen of a row: as it is told, or the place behind its room. -/
def fzc (L : Loc) (fz : Nat × Nat) : Nat × Nat := bif Nat.ble BB fz.1 then (L.cap, L.cap + 1) else fz
@[simp] theorem fzc_z (L : Loc) (n : Nat) : fzc L (0, n) = (0, n) := rfl
def concO (C : Ct) (ρ : Env) (L : Loc) : Obj → Option Obj
  | .cells l e fz => (concs ρ l.toList).bind fun l' => bif Nat.ble BB e then (match C.tt.get (e - BB) with
      | some te => bif Nat.beq (l' ++ L.sp).length (L.cap * te.sz) then some (.cells ⟨l' ++ L.sp⟩ (e - BB) (fzc L fz)) else none
      | none => none) else (match L.sp with
    | [] => some (.cells ⟨l'⟩ e (fzc L fz))
    | _ :: _ => none)
  | .map es c => (concE ρ es.toList).map fun es' => .map ⟨es'⟩ c
  | .stringIter s p => some (.stringIter s p)
  | .mapIter m since seen st => match m with
    | none => some (.mapIter none since seen st)
    | some r => (cad ρ r).map fun r' => .mapIter (some r') since seen st
  | .loop l => match concA ρ l.tmps, cad ρ l.defers with
    | some t', some d' => some (.loop { l with tmps := t', defers := d', fn := L.cap })
    | _, _ => none
  | .deferred none => some (.deferred none)
  | .deferred (some ds) => (concDs ρ ds).map fun ds' => .deferred (some ds')
  | _ => none
theorem concE_mono {ρ : Env} (τ : Env) : ∀ {l us : List MapEntry}, concE ρ l = some us → concE (ρ ++ τ) l = some us
  | [], _, h => by simpa [concE] using h
  | ⟨k, v, b⟩ :: r, us, h => by
    simp only [concE] at h ⊢
    split at h
    · rename_i h1 h2 h3
      rw [conc_mono τ h1, conc_mono τ h2, concE_mono τ h3]; exact h
    · cases h
theorem concO_eq {C : Ct} {ρ : Env} {L : Loc} {l : Array Value} {e : TypeId} {fz : Nat × Nat} : concO C ρ L (.cells l e fz) = (concs ρ l.toList).bind fun l' => bif Nat.ble BB e then (match C.tt.get (e - BB) with
      | some te => bif Nat.beq (l' ++ L.sp).length (L.cap * te.sz) then some (.cells ⟨l' ++ L.sp⟩ (e - BB) (fzc L fz)) else none
      | none => none) else (match L.sp with
    | [] => some (.cells ⟨l'⟩ e (fzc L fz))
    | _ :: _ => none) := rfl
/-- A row of cells, as it lies. -/
theorem concO_cells {C : Ct} {ρ : Env} {L : Loc} {l : Array Value} {e : TypeId} {fz : Nat × Nat} {o : Obj} (h : concO C ρ L (.cells l e fz) = some o) :
    ∃ l' e', concs ρ l.toList = some l' ∧ o = .cells ⟨l' ++ L.sp⟩ e' (fzc L fz) ∧ ((Nat.ble BB e = true ∧ e' = e - BB ∧ ∃ te, C.tt.get (e - BB) = some te ∧ (l' ++ L.sp).length = L.cap * te.sz) ∨ (Nat.ble BB e = false ∧ e' = e ∧ L.sp = [])) := by
  rw [concO_eq] at h
  obtain ⟨l', h1, h2⟩ := Option.bind_eq_some_iff.1 h
  cases hb : Nat.ble BB e with
  | true =>
    rw [hb, cond_true] at h2
    split at h2
    · rename_i te ht
      cases hq : Nat.beq (l' ++ L.sp).length (L.cap * te.sz) with
      | false => rw [hq, cond_false] at h2; cases h2
      | true =>
        rw [hq, cond_true] at h2
        exact ⟨l', _, h1, (Option.some.inj h2).symm, .inl ⟨rfl, rfl, te, ht, Nat.eq_of_beq_eq_true hq⟩⟩
    · cases h2
  | false =>
    rw [hb, cond_false] at h2
    split at h2
    · rename_i hs
      cases h2; exact ⟨l', e, h1, by rw [hs, List.append_nil], .inr ⟨rfl, rfl, hs⟩⟩
    · cases h2
theorem concO_mk {C : Ct} {ρ : Env} {l l' : List Value} {e : TypeId} {n : Nat} {a c : Nat} (h : concs ρ l = some l') (he : Nat.ble BB e = false) : concO C ρ ⟨a, c, []⟩ (.cells ⟨l⟩ e (0, n)) = some (.cells ⟨l'⟩ e (0, n)) := by
  rw [concO_eq, h]
  rw [Option.bind_some, he, cond_false]
  rfl
theorem concO_grow {C : Ct} {ρ : Env} {l l' : List Value} {L : Loc} {e : TypeId} {fz : Nat × Nat} {te : Ti} (h : concs ρ l = some l') (ht : C.tt.get e = some te) (hn : (l' ++ L.sp).length = L.cap * te.sz) : concO C ρ L (.cells ⟨l⟩ (e + BB) fz) = some (.cells ⟨l' ++ L.sp⟩ e (fzc L fz)) := by
  rw [concO_eq, h]
  have h1 : Nat.ble BB (e + BB) = true := by generalize BB = q; exact Nat.ble_eq_true_of_le (Nat.le_add_left _ _)
  have h2 : e + BB - BB = e := by generalize BB = q; exact Nat.add_sub_cancel e q
  rw [Option.bind_some, h1, cond_true, h2, ht]
  have h3 : Nat.beq (l' ++ L.sp).length (L.cap * te.sz) = true := by rw [hn]; exact Nat.beq_refl _
  show (bif Nat.beq (l' ++ L.sp).length (L.cap * te.sz) then some (Obj.cells ⟨l' ++ L.sp⟩ e (fzc L fz)) else none) = _
  rw [h3, cond_true]
/-- The same row with other cells told, as many. -/
theorem concO_put {C : Ct} {ρ : Env} {L : Loc} {l : Array Value} {e : TypeId} {fz fz' : Nat × Nat} {o : Obj} {m m' : List Value} (h : concO C ρ L (.cells l e fz) = some o) (hm : concs ρ m = some m') (hlen : m.length = l.toList.length) :
    ∃ e', concO C ρ L (.cells ⟨m⟩ e fz') = some (.cells ⟨m' ++ L.sp⟩ e' (fzc L fz')) ∧ ∃ l', concs ρ l.toList = some l' ∧ o = .cells ⟨l' ++ L.sp⟩ e' (fzc L fz) := by
  obtain ⟨l', e', h1, rfl, h3⟩ := concO_cells h
  refine ⟨e', ?_, l', h1, rfl⟩
  rw [concO_eq, hm, Option.bind_some]
  rcases h3 with ⟨hb, he, te, ht, hn⟩ | ⟨hb, he, hs⟩
  · have hn' : (m' ++ L.sp).length = L.cap * te.sz := by
      rw [← hn, List.length_append, List.length_append, concs_len hm, concs_len h1, hlen]
    rw [hb, cond_true, ht, he]
    have h4 : Nat.beq (m' ++ L.sp).length (L.cap * te.sz) = true := by rw [hn']; exact Nat.beq_refl _
    show (bif Nat.beq (m' ++ L.sp).length (L.cap * te.sz) then some (Obj.cells ⟨m' ++ L.sp⟩ _ (fzc L fz')) else none) = _
    rw [h4, cond_true]
  · rw [hb, cond_false, he, hs, List.append_nil]
theorem concO_mono {C : Ct} {ρ : Env} (τ : Env) {L : Loc} {o o' : Obj} (h : concO C ρ L o = some o') : concO C (ρ ++ τ) L o = some o' := by
  unfold concO at h ⊢
  split at h
  · obtain ⟨b, h1, h2⟩ := Option.bind_eq_some_iff.1 h
    exact Option.bind_eq_some_iff.2 ⟨b, concs_mono τ h1, h2⟩
  · simp only [Option.map_eq_some_iff] at h ⊢
    obtain ⟨b, h1, h2⟩ := h
    exact ⟨b, concE_mono τ h1, h2⟩
  · exact h
  · split at h
    · exact h
    · simp only [Option.map_eq_some_iff] at h ⊢
      obtain ⟨b, h1, h2⟩ := h
      exact ⟨b, cad_mono τ h1, h2⟩
  · split at h
    · rename_i h1 h2
      rw [concA_mono τ h1, cad_mono τ h2]; exact h
    · cases h
  · exact h
  · simp only [Option.map_eq_some_iff] at h ⊢
    obtain ⟨b, h1, h2⟩ := h
    exact ⟨b, concDs_mono τ h1, h2⟩
  · cases h

/-- The world w, begun at w0 (of which the blocks D were one's own), holds what the state says. -/
structure Sr (C : Ct) (w0 : World) (D : Nat → Prop) (ρ : Env) (s : St) (w : World) : Prop where
  un : lcE ρ s.n = none
  nm : s.n < s.m
  up : ∀ k, s.m ≤ k → lcE ρ k = none
  rv : ∀ k, k ∈ s.rs → lcE ρ k = none ∧ k < s.m ∧ k ≠ s.n
  holds : ∀ k o, s.h.get k = some o → ∃ l o', lcE ρ k = some l ∧ concO C ρ l o = some o' ∧ w.heap[l.ad]? = some o'
  inj : ∀ k k' o o' l l', s.h.get k = some o → s.h.get k' = some o' → lcE ρ k = some l → lcE ρ k' = some l' → l.ad = l'.ad → k = k'
  fresh : ∀ k o l, s.h.get k = some o → lcE ρ k = some l → D l.ad ∨ w0.heap.size ≤ l.ad
  keep : ∀ b, b < w0.heap.size → ¬ D b → w.heap[b]? = w0.heap[b]?
  size : w0.heap.size ≤ w.heap.size
  os : w.os = w0.os
  tape : w.tape = w0.tape
  output : w.output = w0.output
  glob : ∀ g o, C.gl.get g = some o → w.heap[g]? = some o ∧ ∀ k o' l, s.h.get k = some o' → lcE ρ k = some l → l.ad ≠ g

section
variable {C : Ct} {w0 : World} {D : Nat → Prop} {ρ : Env} {s : St} {w : World}

theorem Sr.drew (h : Sr C w0 D ρ s w) : Sr C w0 D ρ s { w with drawn := w.drawn + 1 } :=
  ⟨h.un, h.nm, h.up, h.rv, h.holds, h.inj, h.fresh, h.keep, h.size, h.os, h.tape, h.output, h.glob⟩

theorem Sr.lt (h : Sr C w0 D ρ s w) {k : Nat} {o : Obj} {l : Loc} (hk : s.h.get k = some o) (hl : lcE ρ k = some l) : l.ad < w.heap.size := by
  obtain ⟨l', o', h1, _, h3⟩ := h.holds k o hk
  rw [hl] at h1; cases h1
  exact (Array.getElem?_eq_some_iff.1 h3).1
theorem Sr.kne (h : Sr C w0 D ρ s w) {k : Nat} {o : Obj} (hk : s.h.get k = some o) : k ≠ s.n := by
  obtain ⟨l', o', h1, _, h3⟩ := h.holds k o hk
  intro he
  rw [he, h.un] at h1; cases h1

def St.new (s : St) (o : Obj) : Option St := bif Nat.blt (Nat.succ s.n) TOP then some ⟨s.m, Nat.succ s.m, s.rs, s.h.set s.n (some o)⟩ else none
def St.upd (s : St) (k : Nat) (o : Option Obj) : Option St := bif Nat.blt (Nat.succ k) TOP then some ⟨s.n, s.m, s.rs, s.h.set k o⟩ else none
/-- One more block of a number that was not in use: the numbers. -/
theorem Sr.nums (h : Sr C w0 D ρ s w) (l : Loc) : lcE (ρ ++ [(s.n, l)]) s.m = none ∧ s.m < Nat.succ s.m ∧ (∀ k, Nat.succ s.m ≤ k → lcE (ρ ++ [(s.n, l)]) k = none) ∧ ∀ k, k ∈ s.rs → lcE (ρ ++ [(s.n, l)]) k = none ∧ k < Nat.succ s.m ∧ k ≠ s.m := by
  have hnm := h.nm
  refine ⟨?_, Nat.lt_succ_self _, fun k hk => ?_, fun k hk => ?_⟩
  · rw [lcE_other (by omega)]; exact h.up _ (Nat.le_refl _)
  · rw [lcE_other (by omega)]; exact h.up _ (by omega)
  · obtain ⟨h1, h2, h3⟩ := h.rv k hk
    refine ⟨by rw [lcE_other h3]; exact h1, by omega, by omega⟩

/-- A new block. -/
theorem Sr.alloc (h : Sr C w0 D ρ s w) {o o' : Obj} {cap : Nat} {sp : List Value} {s' : St} (ho : concO C (ρ ++ [(s.n, ⟨w.heap.size, cap, sp⟩)]) ⟨w.heap.size, cap, sp⟩ o = some o') (hs : s.new o = some s') :
    Sr C w0 D (ρ ++ [(s.n, ⟨w.heap.size, cap, sp⟩)]) s' (w.alloc o') := by
  unfold St.new at hs
  cases hb : Nat.blt (Nat.succ s.n) TOP with
  | false => rw [hb] at hs; cases hs
  | true =>
    rw [hb] at hs; cases hs
    have look : ∀ k l, k ≠ s.n → lcE (ρ ++ [(s.n, (⟨w.heap.size, cap, sp⟩ : Loc))]) k = some l → lcE ρ k = some l := fun k l hk hl => by rwa [lcE_other hk] at hl
    have newl : ∀ l, lcE (ρ ++ [(s.n, (⟨w.heap.size, cap, sp⟩ : Loc))]) s.n = some l → l = ⟨w.heap.size, cap, sp⟩ := fun l hl => by
      rw [lcE_new _ h.un] at hl; exact (Option.some.inj hl).symm
    have hg : ∀ k x, (s.h.set s.n (some o)).get k = some x → (k = s.n ∧ x = o) ∨ (k ≠ s.n ∧ s.h.get k = some x) := fun k x hk => by
      rw [Tr.get_set _ hb] at hk
      by_cases hkn : k = s.n
      · rw [if_pos hkn] at hk; cases hk; exact .inl ⟨hkn, rfl⟩
      · rw [if_neg hkn] at hk; exact .inr ⟨hkn, hk⟩
    have hnums := h.nums ⟨w.heap.size, cap, sp⟩
    refine ⟨hnums.1, hnums.2.1, hnums.2.2.1, hnums.2.2.2, fun k x hk => ?_, fun k k' x x' l l' hk hk' hl hl' he => ?_, fun k x l hk hl => ?_, fun b hb' hn => ?_, ?_, h.os, h.tape, h.output, fun g x hx => ?_⟩
    · rcases hg k x hk with ⟨rfl, rfl⟩ | ⟨hne, hk⟩
      · refine ⟨⟨w.heap.size, cap, sp⟩, o', lcE_new _ h.un, ho, ?_⟩
        show (w.heap.push o')[w.heap.size]? = _
        simp
      · obtain ⟨l, o2, h1, h2, h3⟩ := h.holds k x hk
        refine ⟨l, o2, lcE_app _ h1, concO_mono _ h2, ?_⟩
        show (w.heap.push o')[l.ad]? = _
        have := h.lt hk h1
        rw [Array.getElem?_push, if_neg (by omega)]; exact h3
    · rcases hg k x hk with ⟨rfl, rfl⟩ | ⟨hne, hk2⟩ <;> rcases hg k' x' hk' with ⟨rfl, rfl⟩ | ⟨hne', hk2'⟩
      · rfl
      · have h1 := newl l hl
        have h2 := h.lt hk2' (look _ _ hne' hl')
        rw [← he, h1] at h2; simp at h2
      · have h1 := newl l' hl'
        have h2 := h.lt hk2 (look _ _ hne hl)
        rw [he, h1] at h2; simp at h2
      · exact h.inj k k' x x' l l' hk2 hk2' (look _ _ hne hl) (look _ _ hne' hl') he
    · rcases hg k x hk with ⟨rfl, rfl⟩ | ⟨hne, hk⟩
      · rw [newl l hl]; exact .inr h.size
      · exact h.fresh k x l hk (look _ _ hne hl)
    · show (w.heap.push o')[b]? = _
      have := h.size
      rw [Array.getElem?_push, if_neg (by omega)]
      exact h.keep b hb' hn
    · show w0.heap.size ≤ (w.heap.push o').size
      have := h.size
      simp; omega
    · obtain ⟨h1, h2⟩ := h.glob g x hx
      have hlt := (Array.getElem?_eq_some_iff.1 h1).1
      refine ⟨?_, fun k o3 l hk hl => ?_⟩
      · show (w.heap.push o')[g]? = _
        rw [Array.getElem?_push, if_neg (by omega)]; exact h1
      · rcases hg k o3 hk with ⟨rfl, rfl⟩ | ⟨hne, hk⟩
        · rw [newl l hl]; intro he; simp at he; omega
        · exact h2 k o3 l hk (look _ _ hne hl)

/-- One block is written. -/
theorem Sr.write (h : Sr C w0 D ρ s w) {k : Nat} {o o1 o' : Obj} {l : Loc} {s' : St} {w' : World} (hk : s.h.get k = some o1) (hl : lcE ρ k = some l) (ho : concO C ρ l o = some o') (hs : s.upd k (some o) = some s')
    (hb : w'.heap[l.ad]? = some o') (hkeep : ∀ b, b < w.heap.size → b ≠ l.ad → w'.heap[b]? = w.heap[b]?) (hsz : w.heap.size ≤ w'.heap.size) (hos : w'.os = w.os) (ht : w'.tape = w.tape) (hout : w'.output = w.output) :
    Sr C w0 D ρ s' w' := by
  unfold St.upd at hs
  cases hbt : Nat.blt (Nat.succ k) TOP with
  | false => rw [hbt] at hs; cases hs
  | true =>
    rw [hbt] at hs; cases hs
    have hg : ∀ j x, (s.h.set k (some o)).get j = some x → (j = k ∧ x = o) ∨ (j ≠ k ∧ s.h.get j = some x) := fun j x hj => by
      rw [Tr.get_set _ hbt] at hj
      by_cases hjk : j = k
      · rw [if_pos hjk] at hj; cases hj; exact .inl ⟨hjk, rfl⟩
      · rw [if_neg hjk] at hj; exact .inr ⟨hjk, hj⟩
    have back : ∀ j x, (s.h.set k (some o)).get j = some x → ∃ x', s.h.get j = some x' := fun j x hj => by
      rcases hg j x hj with ⟨rfl, rfl⟩ | ⟨_, hj⟩
      · exact ⟨o1, hk⟩
      · exact ⟨x, hj⟩
    refine ⟨h.un, h.nm, h.up, h.rv, fun j x hj => ?_, fun j j' x x' l1 l2 hj hj' hl1 hl2 he => ?_, fun j x l1 hj hl1 => ?_, fun b hb' hn => ?_, Nat.le_trans h.size hsz, hos.trans h.os, ht.trans h.tape, hout.trans h.output, fun g x hx => ?_⟩
    · rcases hg j x hj with ⟨rfl, rfl⟩ | ⟨hne, hj⟩
      · exact ⟨l, o', hl, ho, hb⟩
      · obtain ⟨l1, o2, h1, h2, h3⟩ := h.holds j x hj
        refine ⟨l1, o2, h1, h2, ?_⟩
        rw [hkeep _ (Array.getElem?_eq_some_iff.1 h3).1 (fun he => hne (h.inj j k x o1 l1 l hj hk h1 hl he))]; exact h3
    · obtain ⟨y, hy⟩ := back j x hj
      obtain ⟨y', hy'⟩ := back j' x' hj'
      exact h.inj j j' y y' l1 l2 hy hy' hl1 hl2 he
    · obtain ⟨y, hy⟩ := back j x hj
      exact h.fresh j y l1 hy hl1
    · rw [hkeep _ (Nat.lt_of_lt_of_le hb' h.size)]
      · exact h.keep b hb' hn
      · intro he
        subst he
        rcases h.fresh k o1 l hk hl with hd | hd
        · exact hn hd
        · omega
    · obtain ⟨h1, h2⟩ := h.glob g x hx
      refine ⟨?_, fun j o3 l1 hj hl1 => ?_⟩
      · rw [hkeep _ (Array.getElem?_eq_some_iff.1 h1).1 (fun he => h2 k o1 l hk hl he.symm)]; exact h1
      · obtain ⟨y, hy⟩ := back j o3 hj
        exact h2 j y l1 hy hl1

/-- One block is given up. -/
theorem Sr.drop (h : Sr C w0 D ρ s w) {k : Nat} {s' : St} (hs : s.upd k none = some s') : Sr C w0 D ρ s' w := by
  unfold St.upd at hs
  cases hbt : Nat.blt (Nat.succ k) TOP with
  | false => rw [hbt] at hs; cases hs
  | true =>
    rw [hbt] at hs; cases hs
    have hg : ∀ j x, (s.h.set k none).get j = some x → s.h.get j = some x := fun j x hj => by
      rw [Tr.get_set _ hbt] at hj
      by_cases hjk : j = k
      · rw [if_pos hjk] at hj; cases hj
      · rw [if_neg hjk] at hj; exact hj
    exact ⟨h.un, h.nm, h.up, h.rv, fun j x hj => h.holds j x (hg j x hj), fun j j' x x' l l' hj hj' => h.inj j j' x x' l l' (hg _ _ hj) (hg _ _ hj'), fun j x l hj => h.fresh j x l (hg _ _ hj), h.keep, h.size, h.os, h.tape, h.output,
      fun g x hx => ⟨(h.glob g x hx).1, fun j o l hj => (h.glob g x hx).2 j o l (hg _ _ hj)⟩⟩

/-- A block goes on under another number. -/
theorem Sr.move (h : Sr C w0 D ρ s w) {k : Nat} {o o1 o' : Obj} {l : Loc} {cap : Nat} {sp : List Value} {s1 s' : St} {w' : World} (hk : s.h.get k = some o1) (hl : lcE ρ k = some l)
    (ho : concO C (ρ ++ [(s1.n, ⟨l.ad, cap, sp⟩)]) ⟨l.ad, cap, sp⟩ o = some o') (hs1 : s.upd k none = some s1) (hs : s1.new o = some s')
    (hb : w'.heap[l.ad]? = some o') (hkeep : ∀ b, b < w.heap.size → b ≠ l.ad → w'.heap[b]? = w.heap[b]?) (hsz : w.heap.size ≤ w'.heap.size) (hos : w'.os = w.os) (ht : w'.tape = w.tape) (hout : w'.output = w.output) :
    Sr C w0 D (ρ ++ [(s1.n, ⟨l.ad, cap, sp⟩)]) s' w' := by
  have hk1 := h.drop hs1
  have hnot : ∀ j x, s1.h.get j = some x → j ≠ k := fun j x hj he => by
    subst he
    unfold St.upd at hs1
    cases hbt : Nat.blt (Nat.succ j) TOP with
    | false => rw [hbt] at hs1; cases hs1
    | true => rw [hbt] at hs1; cases hs1; rw [Tr.get_set _ hbt, if_pos rfl] at hj; cases hj
  have hsub : ∀ j x, s1.h.get j = some x → s.h.get j = some x := fun j x hj => by
    have hne := hnot j x hj
    unfold St.upd at hs1
    cases hbt : Nat.blt (Nat.succ k) TOP with
    | false => rw [hbt] at hs1; cases hs1
    | true => rw [hbt] at hs1; cases hs1; rw [Tr.get_set _ hbt, if_neg hne] at hj; exact hj
  have hfar : ∀ j x lj, s1.h.get j = some x → lcE ρ j = some lj → lj.ad ≠ l.ad := fun j x lj hj hlj he => hnot j x hj (h.inj j k x o1 lj l (hsub j x hj) hk hlj hl he)
  unfold St.new at hs
  cases hb' : Nat.blt (Nat.succ s1.n) TOP with
  | false => rw [hb'] at hs; cases hs
  | true =>
    rw [hb'] at hs; cases hs
    have look : ∀ k l2, k ≠ s1.n → lcE (ρ ++ [(s1.n, (⟨l.ad, cap, sp⟩ : Loc))]) k = some l2 → lcE ρ k = some l2 := fun k l2 hk hl => by rwa [lcE_other hk] at hl
    have newl : ∀ l2, lcE (ρ ++ [(s1.n, (⟨l.ad, cap, sp⟩ : Loc))]) s1.n = some l2 → l2 = ⟨l.ad, cap, sp⟩ := fun l2 hl => by
      rw [lcE_new _ hk1.un] at hl; exact (Option.some.inj hl).symm
    have hg : ∀ k x, (s1.h.set s1.n (some o)).get k = some x → (k = s1.n ∧ x = o) ∨ (k ≠ s1.n ∧ s1.h.get k = some x) := fun k x hk => by
      rw [Tr.get_set _ hb'] at hk
      by_cases hkn : k = s1.n
      · rw [if_pos hkn] at hk; cases hk; exact .inl ⟨hkn, rfl⟩
      · rw [if_neg hkn] at hk; exact .inr ⟨hkn, hk⟩
    have hnums := hk1.nums ⟨l.ad, cap, sp⟩
    refine ⟨hnums.1, hnums.2.1, hnums.2.2.1, hnums.2.2.2, fun j x hj => ?_, fun j j' x x' l1 l2 hj hj' hl1 hl2 he => ?_, fun j x l1 hj hl1 => ?_, fun b hb2 hn => ?_, Nat.le_trans h.size hsz, hos.trans h.os, ht.trans h.tape, hout.trans h.output, fun g x hx => ?_⟩
    · rcases hg j x hj with ⟨rfl, rfl⟩ | ⟨hne, hj⟩
      · exact ⟨⟨l.ad, cap, sp⟩, o', lcE_new _ hk1.un, ho, hb⟩
      · obtain ⟨l1, o2, h1, h2, h3⟩ := hk1.holds j x hj
        refine ⟨l1, o2, lcE_app _ h1, concO_mono _ h2, ?_⟩
        rw [hkeep _ (Array.getElem?_eq_some_iff.1 h3).1 (hfar j x l1 hj h1)]; exact h3
    · rcases hg j x hj with ⟨rfl, rfl⟩ | ⟨hne, hj2⟩ <;> rcases hg j' x' hj' with ⟨rfl, rfl⟩ | ⟨hne', hj2'⟩
      · rfl
      · have h1 := newl l1 hl1
        rw [h1] at he
        exact absurd he.symm (hfar j' x' l2 hj2' (look _ _ hne' hl2))
      · have h1 := newl l2 hl2
        rw [h1] at he
        exact absurd he (hfar j x l1 hj2 (look _ _ hne hl1))
      · exact hk1.inj j j' x x' l1 l2 hj2 hj2' (look _ _ hne hl1) (look _ _ hne' hl2) he
    · rcases hg j x hj with ⟨rfl, rfl⟩ | ⟨hne, hj⟩
      · rw [newl l1 hl1]; exact h.fresh k o1 l hk hl
      · exact hk1.fresh j x l1 hj (look _ _ hne hl1)
    · rw [hkeep _ (Nat.lt_of_lt_of_le hb2 h.size)]
      · exact h.keep b hb2 hn
      · intro he
        subst he
        rcases h.fresh k o1 l hk hl with hd | hd
        · exact hn hd
        · omega
    · obtain ⟨h1, h2⟩ := h.glob g x hx
      refine ⟨?_, fun j o3 l1 hj hl1 => ?_⟩
      · rw [hkeep _ (Array.getElem?_eq_some_iff.1 h1).1 (fun he => h2 k o1 l hk hl he.symm)]; exact h1
      · rcases hg j o3 hj with ⟨rfl, rfl⟩ | ⟨hne, hj⟩
        · rw [newl l1 hl1]; exact h2 k o1 l hk hl
        · exact (hk1.glob g x hx).2 j o3 l1 hj (look _ _ hne hl1)

/-! ### Numbers held back -/
def St.bump (s : St) : St := ⟨s.m, Nat.succ s.m, s.rs, s.h⟩
theorem Sr.bump (h : Sr C w0 D ρ s w) : Sr C w0 D ρ s.bump w :=
  ⟨h.up _ (Nat.le_refl _), Nat.lt_succ_self _, fun k hk => h.up k (Nat.le_of_succ_le hk), fun k hk => ⟨(h.rv k hk).1, Nat.lt_succ_of_lt (h.rv k hk).2.1, Nat.ne_of_lt (h.rv k hk).2.1⟩,
    h.holds, h.inj, h.fresh, h.keep, h.size, h.os, h.tape, h.output, h.glob⟩
def heldE : Nat → Nat → List Nat → List Nat
  | 0, _, r => r
  | n + 1, b, r => b :: heldE n (Nat.succ b) r
theorem heldE_mem {r : List Nat} : ∀ {n b k : Nat}, k ∈ heldE n b r → (b ≤ k ∧ k < b + n) ∨ k ∈ r
  | 0, b, k, h => .inr h
  | n + 1, b, k, h => by
    simp only [heldE, List.mem_cons] at h
    rcases h with rfl | h
    · exact .inl ⟨Nat.le_refl _, by omega⟩
    · rcases heldE_mem h with ⟨h1, h2⟩ | h
      · exact .inl ⟨by omega, by omega⟩
      · exact .inr h
/-- L numbers, from m on, are held back. -/
def St.hold (s : St) (L : Nat) : St := ⟨Nat.add s.m L, Nat.succ (Nat.add s.m L), heldE L s.m s.rs, s.h⟩
theorem Sr.hold (h : Sr C w0 D ρ s w) (L : Nat) : Sr C w0 D ρ (s.hold L) w := by
  refine ⟨h.up _ (Nat.le_add_right _ _), Nat.lt_succ_self _, fun k hk => h.up k ?_, fun k hk => ?_, h.holds, h.inj, h.fresh, h.keep, h.size, h.os, h.tape, h.output, h.glob⟩
  · have h1 : Nat.succ (s.m + L) ≤ k := hk
    omega
  · rcases heldE_mem hk with ⟨h1, h2⟩ | hk
    · refine ⟨h.up k h1, ?_, ?_⟩
      · show k < Nat.succ (s.m + L); omega
      · show k ≠ s.m + L; omega
    · obtain ⟨h1, h2, h3⟩ := h.rv k hk
      refine ⟨h1, ?_, ?_⟩
      · show k < Nat.succ (s.m + L); omega
      · show k ≠ s.m + L; omega
/-- The next block is to bear number r, which was held back. -/
def St.takeR (s : St) (r : Nat) : Option St := bif Nat.beq s.m (Nat.succ s.n) && Nat.blt r s.n && s.rs.any (Nat.beq r) then some ⟨r, s.n, s.rs.filter (fun k => !Nat.beq k r), s.h⟩ else none
theorem Sr.takeR (h : Sr C w0 D ρ s w) {r : Nat} {s' : St} (ht : s.takeR r = some s') : Sr C w0 D ρ s' w := by
  unfold St.takeR at ht
  cases hb : (Nat.beq s.m (Nat.succ s.n) && Nat.blt r s.n && s.rs.any (Nat.beq r)) with
  | false => rw [hb] at ht; cases ht
  | true =>
    rw [hb, cond_true] at ht; cases ht
    simp only [Bool.and_eq_true, List.any_eq_true] at hb
    obtain ⟨⟨h1, h2⟩, q, h3, h4⟩ := hb
    have h1' := Nat.eq_of_beq_eq_true h1
    have h2' : r < s.n := Nat.lt_of_lt_of_le (Nat.lt_succ_self _) (Nat.le_of_ble_eq_true h2)
    have h4' := Nat.eq_of_beq_eq_true h4
    subst h4'
    refine ⟨(h.rv r h3).1, h2', fun k hk => ?_, fun k hk => ?_, h.holds, h.inj, h.fresh, h.keep, h.size, h.os, h.tape, h.output, h.glob⟩
    · rcases Nat.eq_or_lt_of_le hk with h5 | h5
      · rw [← h5]; exact h.un
      · exact h.up k (by rw [h1']; exact h5)
    · obtain ⟨h5, h6⟩ := List.mem_filter.1 hk
      obtain ⟨h7, h8, h9⟩ := h.rv k h5
      refine ⟨h7, ?_, ?_⟩
      · show k < s.n; omega
      · show k ≠ r
        intro he; subst he
        simp [Nat.beq_refl] at h6
def St.fixR (r : Nat) (s : St) : St := bif Nat.beq s.n r then s.bump else s
theorem Sr.fixR (h : Sr C w0 D ρ s w) (r : Nat) : Sr C w0 D ρ (s.fixR r) w := by
  unfold St.fixR
  cases Nat.beq s.n r with
  | true => exact h.bump
  | false => exact h
/-- The numbers from b on, L of them, are held back no longer. -/
def St.dropR (b L : Nat) (s : St) : St := ⟨s.n, s.m, s.rs.filter (fun k => !(Nat.ble b k && Nat.blt k (Nat.add b L))), s.h⟩
theorem Sr.dropR (h : Sr C w0 D ρ s w) (b L : Nat) : Sr C w0 D ρ (s.dropR b L) w :=
  ⟨h.un, h.nm, h.up, fun k hk => h.rv k (List.mem_filter.1 hk).1, h.holds, h.inj, h.fresh, h.keep, h.size, h.os, h.tape, h.output, h.glob⟩
def St.z : St := ⟨0, 1, [], .e⟩
end
end Go.Ev
