/-
  tac's writer: an instruction's line.
  Bytes in hexadecimal: tac's hex, the document's data.
  A program's lines, tac's words and the document's; how long the text may be.
  How long a right program's text may be.
-/
import Derived.Test.YtpohhfggmaihpaaGreatDoorZ12

/- tac's writer: an instruction's line. -/
namespace Go.Proofs.YtpohhfggmaihpaaGreatDoor
open Go.Wk
set_option linter.unusedVariables false
set_option linter.unusedSimpArgs false
attribute [local irreducible] G GC GQ GA GS Exit.then Exit.inBlock

def mkB (l : List UInt8) : ByteArray := ⟨l.toArray⟩
theorem mkB_of {s : ByteArray} {l : List UInt8} (h : bytesL s = l) : s = mkB l := by subst h; rfl
def strW (l : List UInt8) : List Value := [.string (mkB l)]
theorem map_mkB (W : List (List UInt8)) : (W.map mkB).map bytesL = W := by
  rw [List.map_map]; exact List.map_id'' (fun _ => rfl) W
theorem rdW {h : Nat → Option Obj} {ad : Option Addr} {W : List (List UInt8)} (hr : Rd h strW 1 ad W) : Rd h strC 1 ad (W.map mkB) := fun i x hx => by
  rw [List.getElem?_map] at hx
  cases hq : W[i]? with
  | none => rw [hq] at hx; cases hx
  | some y =>
    rw [hq] at hx; cases hx
    exact hr i y hq
theorem lineW_sp (b : Nat) (l : List UInt8) (R0 : RL) (ad : Option Addr) (n c : Nat) (W : List (List UInt8)) (w : World) (hB : BW b l R0) (hE : Eff w R0.flatten w R0.flatten) (hw0 : Rd (exc w R0.flatten) strW 1 ad W) (h0 : W ≠ []) (hWn : W.length = n) (hc : n ≤ c)
    (hlen : l.length + ((Lib.join W [32]).length + 1) ≤ 1099511627776) :
    Sp Tryz.prog 35 [.pointer (some ⟨b, 0, none⟩), .slice ad n c] w R0.flatten (fun _ : RL => .tuple #[]) (fun R => R) (fun R => BW b (l ++ (Lib.join W [32] ++ [10])) R) := by
  have hn : W.length ≤ (Lib.join W [32]).length + 1 := join_len W
  have := line_sp b l R0 ad c (W.map mkB) w hB hE (rdW hw0) (by simpa using h0) (by simp; omega) (by simp; omega) (by rw [map_mkB]; exact hlen)
  rw [map_mkB, List.length_map, hWn] at this
  exact this
theorem flatW_len : ∀ W : List (List UInt8), (W.flatMap strW).length = W.length
  | [] => rfl
  | a :: r => by rw [List.flatMap_cons, List.length_append, flatW_len r]; show 1 + _ = _ + 1; omega
theorem of_decide_lt {k n : Nat} (h : decide ((k : Int) < (n : Int)) = true) : k < n := by have := of_decide_eq_true h; omega
theorem ownW_lit {n : Nat} (g : Nat) (W : List (List UInt8)) (h : W.length = n) (hm : n ≤ 1000) : OwnL 9 1 strW (.slice (some ⟨g, 0, none⟩) n n) W [(g, .cells ⟨W.flatMap strW⟩ 9 (0, 0))] := by
  subst h
  have e := flatW_len W
  exact ⟨by rw [e, Nat.mul_one], .inr ⟨g, W.length, [], rfl, by simp, Nat.le_refl _, by unfold maxLen; omega, by simp [e]⟩⟩
theorem ownW_shape {v : Value} {W : List (List UInt8)} {A : HL} (h : OwnL 9 1 strW v W A) : ∃ ad c, v = .slice ad W.length c ∧ W.length ≤ c ∧ ∀ {H : Nat → Option Obj}, (∀ b o, (b, o) ∈ A → H b = some o) → Rd H strW 1 ad W := by
  rcases h.2 with ⟨he, h2, -⟩ | ⟨g, cap', rest, he, -, h3, -⟩
  · refine ⟨none, 0, by rw [he, h2], by omega, fun hA i x hx => ?_⟩
    rw [List.eq_nil_of_length_eq_zero h2] at hx; cases hx
  · refine ⟨some ⟨g, 0, none⟩, cap', he, h3, fun hA => ?_⟩
    obtain ⟨ad', c', he', hr⟩ := OwnL.rd (f := strW) (fun _ => rfl) h hA
    rw [he] at he'; cases he'
    exact hr
theorem litW_rd {X : Cx} {w : World} {R0 F : RL} {g : Nat} {fz : Nat × Nat} {W : List (List UInt8)} {n : Nat} (h : W.length = n) (hm : n ≤ 1000) (H : Hp X w (R0 ++ ([(g, .cells ⟨W.flatMap strW⟩ 9 (0, 0))] :: F))) : Rd (exc w R0.flatten) strW 1 (some ⟨g, 0, none⟩) W := by
  obtain ⟨ad, c, he, -, hr⟩ := ownW_shape (ownW_lit g W h hm)
  cases he
  exact hr (fun b o hb => hp_exc (hp_join H) (List.mem_append_left _ hb))
theorem fin_own {X : Cx} {w w0 : World} {A0 : HL} {R F : RL} (h0 : X.w0 = w0) (hA : X.A0 = A0) (H : Hp X w (R ++ F)) : Eff w0 A0 w R.flatten := by
  subst h0; subst hA
  unfold Hp at H
  rw [List.flatten_append] at H
  exact Eff.sel H F.flatten (List.Perm.refl _)
set_option maxHeartbeats 16000000 in
theorem ins_sp (b : Nat) (l : List UInt8) (R0 : RL) (x : Ins) (w : World) (hB : BW b l R0) (hE : Eff w R0.flatten w R0.flatten) (hx : InsIn (exc w R0.flatten) x) (hP : PI x) (h20 : Pow20 (exc w R0.flatten))
    (hlen : l.length + ((Lib.join (insW x) [32]).length + 1) ≤ 1099511627776) :
    Sp Tryz.prog 38 [.pointer (some ⟨b, 0, none⟩), x.val] w R0.flatten (fun _ : RL => .tuple #[]) (fun R => R) (fun R => BW b (l ++ (Lib.join (insW x) [32] ++ [10])) R) := by
  have haa := hx.ok x.a (by simp)
  have hab := hx.ok x.b (by simp)
  refine enter (s := Tryz.sx) R0 Tryz.func38 rfl rfl rfl hE ?_
  refine gc_seq ?_
  repeat' (first | refine g_nil ?_ | refine gq_then ?_ | refine gc_region ?_ | refine g_box rfl rfl (fun _ => ?_))
  rename_i b3
  refine gc_seq ?_
  refine gc_draw [[(b3, .cells ⟨x.cells⟩ 43 (0, 0))]] R0 rfl (List.Perm.of_eq rfl) ?_
  (refine aP 0 rfl rfl ?_); (refine aL 1 0 rfl wanted_none rfl rfl rfl rfl rfl ?_); (refine aP 3 rfl rfl ?_); (refine aL 4 0 rfl wanted_none rfl rfl rfl rfl rfl ?_); (refine aP 6 rfl rfl ?_); (refine aL 7 0 rfl wanted_none rfl rfl rfl rfl rfl ?_)

  refine aO 2 rfl (fun K hK => ?_)
  refine g_call rfl (Cl.of Tryz.func59 rfl rfl) rfl rfl (fun w' hE => argt_sp x.a w' haa (h20.le (fun b o h => old_le hE b o (old_leA _ w _ b o h)))) rfl (fun sa hsa => ?_)
  obtain rfl := mkB_of hsa
  refine g_nil ?_
  refine hK _ _ ⟨R0, List.Perm.of_eq rfl⟩ ?_
  refine aO 5 rfl (fun K hK => ?_)
  refine g_call rfl (Cl.of Tryz.func59 rfl rfl) rfl rfl (fun w' hE => argt_sp x.b w' hab (h20.le (fun b o h => old_le hE b o (old_leA _ w _ b o h)))) rfl (fun sb hsb => ?_)
  obtain rfl := mkB_of hsb
  refine g_nil ?_
  refine hK _ _ ⟨R0, List.Perm.of_eq rfl⟩ ?_
  refine aO 8 rfl (fun K hK => ?_)
  refine g_call rfl (Cl.of Tryz.func60 rfl rfl) rfl rfl (fun w' hE => tmp_sp x.d w' hx.d (h20.le (fun b o h => old_le hE b o (old_leA _ w _ b o h)))) rfl (fun sd hsd => ?_)
  obtain rfl := mkB_of hsd
  refine g_nil ?_
  refine hK _ _ ⟨R0, List.Perm.of_eq rfl⟩ ?_
  (refine aP 9 rfl rfl ?_); (refine aP 10 rfl rfl ?_); (refine aP 11 rfl rfl ?_)
  refine ga_nil (by kernel_rfl) ?_
  repeat' (first | refine g_pv rfl rfl ?_ | refine g_ld 0 rfl rfl rfl rfl rfl rfl ?_ | refine g_nil ?_ | refine gq_then ?_ | refine gc_seq ?_ | refine gc_region ?_ | refine gc_block ?_)
  refine gc_condC rfl (fun c1 => ?_) (fun c1 => ?_)
  · have c1 : x.op = 1 := beq_iff_eq.1 c1
    repeat' (first | refine g_pv rfl rfl ?_ | refine gc_region ?_)
    refine g_litL rfl rfl rfl rfl rfl rfl rfl rfl rfl rfl (fun g => ?_)
    refine g_heap (R' := R0 ++ [[(g, .cells ⟨([k_mov, tmpT x.d, argT x.a] : List (List UInt8)).flatMap strW⟩ 9 (0, 0))], [(b3, .cells ⟨x.cells⟩ 43 (0, 0))]]) (fun w H => hp_permL H List.perm_append_comm) ?_
    have hW : insW x = [k_mov, tmpT x.d, argT x.a] := by simp [insW, c1]
    refine g_call1 (A := R0) (F := [[(g, .cells ⟨([k_mov, tmpT x.d, argT x.a] : List (List UInt8)).flatMap strW⟩ 9 (0, 0))], [(b3, .cells ⟨x.cells⟩ 43 (0, 0))]]) rfl rfl (Cl.of Tryz.func35 rfl rfl) rfl rfl (fun w' hE' => lineW_sp b l R0 (some ⟨g, 0, none⟩) 3 3 [k_mov, tmpT x.d, argT x.a] w' hB (hp_own hE') (litW_rd (n := 3) (fz := (0, 0)) rfl (by decide) hE') (by simp) rfl (Nat.le_refl _) (by rw [← hW]; exact hlen)) rfl ?_
    intro R1 hR1
    rw [← hW] at hR1
    repeat' (first | refine g_nil ?_ | refine gq_block ?_)
    exact gq_ret0 (.inl rfl) rfl rfl (fun w' H => ⟨R1, hR1, rfl, fin_own rfl rfl H⟩)
  have c1 : ¬ x.op = 1 := beq_eq_false_iff_ne.1 c1
  repeat' (first | refine g_pv rfl rfl ?_ | refine g_nil ?_ | refine gq_then ?_ | refine gc_seq ?_ | refine gc_region ?_)
  refine gc_condC rfl (fun c2 => ?_) (fun c2 => ?_)
  · have c2 : x.op = 2 := beq_iff_eq.1 c2
    repeat' (first | refine g_pv rfl rfl ?_ | refine g_ld 0 rfl rfl rfl rfl rfl rfl ?_ | refine gc_region ?_)
    refine g_call rfl (Cl.of Tryz.func61 rfl rfl) rfl rfl (fun w' hE => name_sp x.bin w') rfl (fun sn hsn => ?_)
    obtain rfl := hsn
    repeat' (refine g_pv rfl rfl ?_)
    refine g_litL rfl rfl rfl rfl rfl rfl rfl rfl rfl rfl (fun g => ?_)
    refine g_heap (R' := R0 ++ [[(g, .cells ⟨([bytesL (nameL x.bin), tmpT x.d, argT x.a, argT x.b] : List (List UInt8)).flatMap strW⟩ 9 (0, 0))], [(b3, .cells ⟨x.cells⟩ 43 (0, 0))]]) (fun w H => hp_permL H List.perm_append_comm) ?_
    have hW : insW x = [bytesL (nameL x.bin), tmpT x.d, argT x.a, argT x.b] := by simp [insW, c2]
    refine g_call1 (A := R0) (F := [[(g, .cells ⟨([bytesL (nameL x.bin), tmpT x.d, argT x.a, argT x.b] : List (List UInt8)).flatMap strW⟩ 9 (0, 0))], [(b3, .cells ⟨x.cells⟩ 43 (0, 0))]]) rfl rfl (Cl.of Tryz.func35 rfl rfl) rfl rfl (fun w' hE' => lineW_sp b l R0 (some ⟨g, 0, none⟩) 4 4 [bytesL (nameL x.bin), tmpT x.d, argT x.a, argT x.b] w' hB (hp_own hE') (litW_rd (n := 4) (fz := (0, 0)) rfl (by decide) hE') (by simp) rfl (Nat.le_refl _) (by rw [← hW]; exact hlen)) rfl ?_
    intro R1 hR1
    rw [← hW] at hR1
    repeat' (first | refine g_nil ?_ | refine gq_block ?_)
    exact gq_ret0 (.inl rfl) rfl rfl (fun w' H => ⟨R1, hR1, rfl, fin_own rfl rfl H⟩)
  have c2 : ¬ x.op = 2 := beq_eq_false_iff_ne.1 c2
  repeat' (first | refine g_pv rfl rfl ?_ | refine g_nil ?_ | refine gq_then ?_ | refine gc_seq ?_ | refine gc_region ?_)
  refine gc_condC rfl (fun c3 => ?_) (fun c3 => ?_)
  · have c3 : x.op = 3 := beq_iff_eq.1 c3
    refine gc_draw [[(b3, .cells ⟨x.cells⟩ 43 (0, 0))]] R0 rfl (List.Perm.of_eq rfl) ?_
    (refine aP 0 rfl rfl ?_); (refine aP 1 rfl rfl ?_); (refine aP 2 rfl rfl ?_); (refine aL 3 0 rfl wanted_none rfl rfl rfl rfl rfl ?_); (refine aP 5 rfl rfl ?_); (refine aL 6 0 rfl wanted_none rfl rfl rfl rfl rfl ?_)
    refine aO 4 rfl (fun K hK => ?_)
    refine g_call rfl (Cl.of Tryz.func36 rfl rfl) rfl rfl (fun w' hE => dec_sp x.n w' hx.n (h20.le (fun b o h => old_le hE b o (old_leA _ w _ b o h)))) rfl (fun sn hsn => ?_)
    obtain rfl := mkB_of hsn
    refine g_nil ?_
    refine hK _ _ ⟨R0, List.Perm.of_eq rfl⟩ ?_
    refine aO 7 rfl (fun K hK => ?_)
    refine g_call rfl (Cl.of Tryz.func36 rfl rfl) rfl rfl (fun w' hE => dec_sp x.off w' hP.off (h20.le (fun b o h => old_le hE b o (old_leA _ w _ b o h)))) rfl (fun so hso => ?_)
    obtain rfl := mkB_of hso
    refine g_nil ?_
    refine hK _ _ ⟨R0, List.Perm.of_eq rfl⟩ ?_
    refine aO 8 rfl (fun K hK => ?_)
    refine g_litL rfl rfl rfl rfl rfl rfl rfl rfl rfl rfl (fun g => ?_)
    refine g_heap (R' := R0 ++ [[(g, .cells ⟨([k_addr, tmpT x.d, Lib.itoa x.n, Lib.itoa x.off] : List (List UInt8)).flatMap strW⟩ 9 (0, 0))], [(b3, .cells ⟨x.cells⟩ 43 (0, 0))]]) (fun w H => hp_permL H List.perm_append_comm) ?_
    refine g_nil ?_
    refine hK _ _ ⟨R0 ++ [[(g, .cells ⟨([k_addr, tmpT x.d, Lib.itoa x.n, Lib.itoa x.off] : List (List UInt8)).flatMap strW⟩ 9 (0, 0))]], List.perm_append_comm.trans (List.Perm.of_eq (List.append_assoc _ _ _))⟩ ?_
    refine aO 9 rfl (fun K hK => ?_)
    have hW : insW x = [k_addr, tmpT x.d, Lib.itoa x.n, Lib.itoa x.off] := by simp [insW, c3]
    refine g_call1 (A := R0) (F := [[(g, .cells ⟨([k_addr, tmpT x.d, Lib.itoa x.n, Lib.itoa x.off] : List (List UInt8)).flatMap strW⟩ 9 (0, 0))], [(b3, .cells ⟨x.cells⟩ 43 (0, 0))]]) rfl rfl (Cl.of Tryz.func35 rfl rfl) rfl rfl (fun w' hE' => lineW_sp b l R0 (some ⟨g, 0, none⟩) 4 4 [k_addr, tmpT x.d, Lib.itoa x.n, Lib.itoa x.off] w' hB (hp_own hE') (litW_rd (n := 4) (fz := (0, 0)) rfl (by decide) hE') (by simp) rfl (Nat.le_refl _) (by rw [← hW]; exact hlen)) rfl ?_
    intro R1 hR1
    rw [← hW] at hR1
    refine g_nil ?_
    refine hK _ _ ⟨R1 ++ [[(g, .cells ⟨([k_addr, tmpT x.d, Lib.itoa x.n, Lib.itoa x.off] : List (List UInt8)).flatMap strW⟩ 9 (0, 0))]], List.perm_append_comm.trans (List.Perm.of_eq (List.append_assoc _ _ _))⟩ ?_
    refine ga_nil (by kernel_rfl) ?_
    repeat' (refine gq_block ?_)
    exact gq_ret0 (.inl rfl) rfl rfl (fun w' H => ⟨R1, hR1, rfl, fin_own rfl rfl H⟩)
  have c3 : ¬ x.op = 3 := beq_eq_false_iff_ne.1 c3
  repeat' (first | refine g_pv rfl rfl ?_ | refine g_nil ?_ | refine gq_then ?_ | refine gc_seq ?_ | refine gc_region ?_)
  refine gc_condC rfl (fun c4 => ?_) (fun c4 => ?_)
  · have c4 : x.op = 4 := beq_iff_eq.1 c4
    refine gc_draw [[(b3, .cells ⟨x.cells⟩ 43 (0, 0))]] R0 rfl (List.Perm.of_eq rfl) ?_
    (refine aP 0 rfl rfl ?_); (refine aP 1 rfl rfl ?_); (refine aP 2 rfl rfl ?_); (refine aL 3 0 rfl wanted_none rfl rfl rfl rfl rfl ?_); (refine aP 5 rfl rfl ?_); (refine aL 6 0 rfl wanted_none rfl rfl rfl rfl rfl ?_)
    refine aO 4 rfl (fun K hK => ?_)
    refine g_call rfl (Cl.of Tryz.func36 rfl rfl) rfl rfl (fun w' hE => dec_sp x.n w' hx.n (h20.le (fun b o h => old_le hE b o (old_leA _ w _ b o h)))) rfl (fun sn hsn => ?_)
    obtain rfl := mkB_of hsn
    refine g_nil ?_
    refine hK _ _ ⟨R0, List.Perm.of_eq rfl⟩ ?_
    refine aO 7 rfl (fun K hK => ?_)
    refine g_call rfl (Cl.of Tryz.func36 rfl rfl) rfl rfl (fun w' hE => dec_sp x.off w' hP.off (h20.le (fun b o h => old_le hE b o (old_leA _ w _ b o h)))) rfl (fun so hso => ?_)
    obtain rfl := mkB_of hso
    refine g_nil ?_
    refine hK _ _ ⟨R0, List.Perm.of_eq rfl⟩ ?_
    refine aO 8 rfl (fun K hK => ?_)
    refine g_litL rfl rfl rfl rfl rfl rfl rfl rfl rfl rfl (fun g => ?_)
    refine g_heap (R' := R0 ++ [[(g, .cells ⟨([k_glob, tmpT x.d, Lib.itoa x.n, Lib.itoa x.off] : List (List UInt8)).flatMap strW⟩ 9 (0, 0))], [(b3, .cells ⟨x.cells⟩ 43 (0, 0))]]) (fun w H => hp_permL H List.perm_append_comm) ?_
    refine g_nil ?_
    refine hK _ _ ⟨R0 ++ [[(g, .cells ⟨([k_glob, tmpT x.d, Lib.itoa x.n, Lib.itoa x.off] : List (List UInt8)).flatMap strW⟩ 9 (0, 0))]], List.perm_append_comm.trans (List.Perm.of_eq (List.append_assoc _ _ _))⟩ ?_
    refine aO 9 rfl (fun K hK => ?_)
    have hW : insW x = [k_glob, tmpT x.d, Lib.itoa x.n, Lib.itoa x.off] := by simp [insW, c4]
    refine g_call1 (A := R0) (F := [[(g, .cells ⟨([k_glob, tmpT x.d, Lib.itoa x.n, Lib.itoa x.off] : List (List UInt8)).flatMap strW⟩ 9 (0, 0))], [(b3, .cells ⟨x.cells⟩ 43 (0, 0))]]) rfl rfl (Cl.of Tryz.func35 rfl rfl) rfl rfl (fun w' hE' => lineW_sp b l R0 (some ⟨g, 0, none⟩) 4 4 [k_glob, tmpT x.d, Lib.itoa x.n, Lib.itoa x.off] w' hB (hp_own hE') (litW_rd (n := 4) (fz := (0, 0)) rfl (by decide) hE') (by simp) rfl (Nat.le_refl _) (by rw [← hW]; exact hlen)) rfl ?_
    intro R1 hR1
    rw [← hW] at hR1
    refine g_nil ?_
    refine hK _ _ ⟨R1 ++ [[(g, .cells ⟨([k_glob, tmpT x.d, Lib.itoa x.n, Lib.itoa x.off] : List (List UInt8)).flatMap strW⟩ 9 (0, 0))]], List.perm_append_comm.trans (List.Perm.of_eq (List.append_assoc _ _ _))⟩ ?_
    refine ga_nil (by kernel_rfl) ?_
    repeat' (refine gq_block ?_)
    exact gq_ret0 (.inl rfl) rfl rfl (fun w' H => ⟨R1, hR1, rfl, fin_own rfl rfl H⟩)
  have c4 : ¬ x.op = 4 := beq_eq_false_iff_ne.1 c4
  repeat' (first | refine g_pv rfl rfl ?_ | refine g_nil ?_ | refine gq_then ?_ | refine gc_seq ?_ | refine gc_region ?_)
  refine gc_condC rfl (fun c5 => ?_) (fun c5 => ?_)
  · have c5 : x.op = 5 := beq_iff_eq.1 c5
    refine gc_seq ?_
    refine gc_draw [[(b3, .cells ⟨x.cells⟩ 43 (0, 0))]] R0 rfl (List.Perm.of_eq rfl) ?_
    (refine aP 0 rfl rfl ?_); (refine aP 1 rfl rfl ?_); (refine aP 2 rfl rfl ?_); (refine aL 3 0 rfl wanted_none rfl rfl rfl rfl rfl ?_); (refine aP 5 rfl rfl ?_); (refine aL 6 0 rfl wanted_none rfl rfl rfl rfl rfl ?_)
    refine aO 4 rfl (fun K hK => ?_)
    refine g_call rfl (Cl.of Tryz.func36 rfl rfl) rfl rfl (fun w' hE => dec_sp x.off w' hP.off (h20.le (fun b o h => old_le hE b o (old_leA _ w _ b o h)))) rfl (fun so hso => ?_)
    obtain rfl := mkB_of hso
    refine g_nil ?_
    refine hK _ _ ⟨R0, List.Perm.of_eq rfl⟩ ?_
    refine aO 7 rfl (fun K hK => ?_)
    refine g_call rfl (Cl.of Tryz.func36 rfl rfl) rfl rfl (fun w' hE => dec_sp x.width w' hP.width (h20.le (fun b o h => old_le hE b o (old_leA _ w _ b o h)))) rfl (fun sw hsw => ?_)
    obtain rfl := mkB_of hsw
    refine g_nil ?_
    refine hK _ _ ⟨R0, List.Perm.of_eq rfl⟩ ?_
    refine aO 8 rfl (fun K hK => ?_)
    refine g_litL rfl rfl rfl rfl rfl rfl rfl rfl rfl rfl (fun g => ?_)
    refine g_heap (R' := [[(g, .cells ⟨([k_load, tmpT x.d, argT x.a, Lib.itoa x.off, Lib.itoa x.width] : List (List UInt8)).flatMap strW⟩ 9 (0, 0))], [(b3, .cells ⟨x.cells⟩ 43 (0, 0))]] ++ R0) (fun w H => H) ?_
    refine g_nil ?_
    refine hK _ _ ⟨[(g, .cells ⟨([k_load, tmpT x.d, argT x.a, Lib.itoa x.off, Lib.itoa x.width] : List (List UInt8)).flatMap strW⟩ 9 (0, 0))] :: R0, List.Perm.swap _ _ _⟩ ?_
    (refine aP 9 rfl rfl ?_)
    refine ga_nil (by kernel_rfl) ?_
    repeat' (first | refine g_pv rfl rfl ?_ | refine g_ld 1 rfl rfl rfl rfl rfl rfl ?_ | refine g_nil ?_ | refine gq_then ?_ | refine gc_seq ?_ | refine gc_region ?_)
    refine gc_condC rfl (fun c0 => ?_) (fun c0 => ?_)
    · have hW : insW x = [k_load, tmpT x.d, argT x.a, Lib.itoa x.off, Lib.itoa x.width, k_signed] := by simp [insW, c5, show x.signed = true from c0]
      repeat' (first | refine g_pv rfl rfl ?_ | refine gc_region ?_)
      refine g_app1L 0 (f := strW) (q := k_signed) rfl rfl rfl rfl rfl rfl rfl rfl rfl rfl rfl rfl (ownW_lit g [k_load, tmpT x.d, argT x.a, Lib.itoa x.off, Lib.itoa x.width] rfl (by decide)) (by show 5 + 1 ≤ maxLen; decide) (by show (5 + 1) * 16 ≤ 140737488355328; decide) rfl rfl (fun v1 A1 g1 ho => ?_)
      obtain ⟨ad1, c1', rfl, hc1', hr1⟩ := ownW_shape ho
      refine g_heap (R' := [A1, [(b3, .cells ⟨x.cells⟩ 43 (0, 0))]] ++ R0) (fun w H => H) ?_
      repeat' (first | refine g_pv rfl rfl ?_ | refine g_nil ?_ | refine gq_then ?_ | refine gc_region ?_)
      refine g_heap (R' := R0 ++ [A1, [(b3, .cells ⟨x.cells⟩ 43 (0, 0))]]) (fun w H => hp_permL H List.perm_append_comm) ?_
      refine g_call1 (A := R0) (F := [A1, [(b3, .cells ⟨x.cells⟩ 43 (0, 0))]]) rfl rfl (Cl.of Tryz.func35 rfl rfl) rfl rfl (fun w' hE' => lineW_sp b l R0 ad1 _ c1' [k_load, tmpT x.d, argT x.a, Lib.itoa x.off, Lib.itoa x.width, k_signed] w' hB (hp_own hE') (hr1 (fun b o hb => hp_exc (hp_join hE') (List.mem_append_left _ hb))) (by simp) rfl hc1' (by rw [← hW]; exact hlen)) rfl ?_
      intro R1 hR1
      rw [← hW] at hR1
      repeat' (first | refine g_nil ?_ | refine gq_block ?_)
      exact gq_ret0 (.inl rfl) rfl rfl (fun w' H => ⟨R1, hR1, rfl, fin_own rfl rfl H⟩)
    · repeat' (first | refine g_pv rfl rfl ?_ | refine gq_then ?_ | refine gc_region ?_ | refine gc_skip ?_)
      refine g_heap (R' := R0 ++ [[(g, .cells ⟨([k_load, tmpT x.d, argT x.a, Lib.itoa x.off, Lib.itoa x.width] : List (List UInt8)).flatMap strW⟩ 9 (0, 0))], [(b3, .cells ⟨x.cells⟩ 43 (0, 0))]]) (fun w H => hp_permL H List.perm_append_comm) ?_
      have hW : insW x = [k_load, tmpT x.d, argT x.a, Lib.itoa x.off, Lib.itoa x.width] := by simp [insW, c5, show x.signed = false from c0]
      refine g_call1 (A := R0) (F := [[(g, .cells ⟨([k_load, tmpT x.d, argT x.a, Lib.itoa x.off, Lib.itoa x.width] : List (List UInt8)).flatMap strW⟩ 9 (0, 0))], [(b3, .cells ⟨x.cells⟩ 43 (0, 0))]]) rfl rfl (Cl.of Tryz.func35 rfl rfl) rfl rfl (fun w' hE' => lineW_sp b l R0 (some ⟨g, 0, none⟩) 5 5 [k_load, tmpT x.d, argT x.a, Lib.itoa x.off, Lib.itoa x.width] w' hB (hp_own hE') (litW_rd (n := 5) (fz := (0, 0)) rfl (by decide) hE') (by simp) rfl (Nat.le_refl _) (by rw [← hW]; exact hlen)) rfl ?_
      intro R1 hR1
      rw [← hW] at hR1
      repeat' (first | refine g_nil ?_ | refine gq_block ?_)
      exact gq_ret0 (.inl rfl) rfl rfl (fun w' H => ⟨R1, hR1, rfl, fin_own rfl rfl H⟩)
  have c5 : ¬ x.op = 5 := beq_eq_false_iff_ne.1 c5
  repeat' (first | refine g_pv rfl rfl ?_ | refine g_nil ?_ | refine gq_then ?_ | refine gc_seq ?_ | refine gc_region ?_)
  refine gc_condC rfl (fun c6 => ?_) (fun c6 => ?_)
  · have c6 : x.op = 6 := beq_iff_eq.1 c6
    refine gc_draw [[(b3, .cells ⟨x.cells⟩ 43 (0, 0))]] R0 rfl (List.Perm.of_eq rfl) ?_
    (refine aP 0 rfl rfl ?_); (refine aP 1 rfl rfl ?_); (refine aP 2 rfl rfl ?_); (refine aL 3 0 rfl wanted_none rfl rfl rfl rfl rfl ?_); (refine aP 5 rfl rfl ?_); (refine aP 6 rfl rfl ?_); (refine aL 7 0 rfl wanted_none rfl rfl rfl rfl rfl ?_)
    refine aO 4 rfl (fun K hK => ?_)
    refine g_call rfl (Cl.of Tryz.func36 rfl rfl) rfl rfl (fun w' hE => dec_sp x.off w' hP.off (h20.le (fun b o h => old_le hE b o (old_leA _ w _ b o h)))) rfl (fun so hso => ?_)
    obtain rfl := mkB_of hso
    refine g_nil ?_
    refine hK _ _ ⟨R0, List.Perm.of_eq rfl⟩ ?_
    refine aO 8 rfl (fun K hK => ?_)
    refine g_call rfl (Cl.of Tryz.func36 rfl rfl) rfl rfl (fun w' hE => dec_sp x.width w' hP.width (h20.le (fun b o h => old_le hE b o (old_leA _ w _ b o h)))) rfl (fun sw hsw => ?_)
    obtain rfl := mkB_of hsw
    refine g_nil ?_
    refine hK _ _ ⟨R0, List.Perm.of_eq rfl⟩ ?_
    refine aO 9 rfl (fun K hK => ?_)
    refine g_litL rfl rfl rfl rfl rfl rfl rfl rfl rfl rfl (fun g => ?_)
    refine g_heap (R' := R0 ++ [[(g, .cells ⟨([k_store, argT x.a, Lib.itoa x.off, argT x.b, Lib.itoa x.width] : List (List UInt8)).flatMap strW⟩ 9 (0, 0))], [(b3, .cells ⟨x.cells⟩ 43 (0, 0))]]) (fun w H => hp_permL H List.perm_append_comm) ?_
    refine g_nil ?_
    refine hK _ _ ⟨R0 ++ [[(g, .cells ⟨([k_store, argT x.a, Lib.itoa x.off, argT x.b, Lib.itoa x.width] : List (List UInt8)).flatMap strW⟩ 9 (0, 0))]], List.perm_append_comm.trans (List.Perm.of_eq (List.append_assoc _ _ _))⟩ ?_
    refine aO 10 rfl (fun K hK => ?_)
    have hW : insW x = [k_store, argT x.a, Lib.itoa x.off, argT x.b, Lib.itoa x.width] := by simp [insW, c6]
    refine g_call1 (A := R0) (F := [[(g, .cells ⟨([k_store, argT x.a, Lib.itoa x.off, argT x.b, Lib.itoa x.width] : List (List UInt8)).flatMap strW⟩ 9 (0, 0))], [(b3, .cells ⟨x.cells⟩ 43 (0, 0))]]) rfl rfl (Cl.of Tryz.func35 rfl rfl) rfl rfl (fun w' hE' => lineW_sp b l R0 (some ⟨g, 0, none⟩) 5 5 [k_store, argT x.a, Lib.itoa x.off, argT x.b, Lib.itoa x.width] w' hB (hp_own hE') (litW_rd (n := 5) (fz := (0, 0)) rfl (by decide) hE') (by simp) rfl (Nat.le_refl _) (by rw [← hW]; exact hlen)) rfl ?_
    intro R1 hR1
    rw [← hW] at hR1
    refine g_nil ?_
    refine hK _ _ ⟨R1 ++ [[(g, .cells ⟨([k_store, argT x.a, Lib.itoa x.off, argT x.b, Lib.itoa x.width] : List (List UInt8)).flatMap strW⟩ 9 (0, 0))]], List.perm_append_comm.trans (List.Perm.of_eq (List.append_assoc _ _ _))⟩ ?_
    refine ga_nil (by kernel_rfl) ?_
    repeat' (refine gq_block ?_)
    exact gq_ret0 (.inl rfl) rfl rfl (fun w' H => ⟨R1, hR1, rfl, fin_own rfl rfl H⟩)
  have c6 : ¬ x.op = 6 := beq_eq_false_iff_ne.1 c6
  repeat' (first | refine g_pv rfl rfl ?_ | refine g_nil ?_ | refine gq_then ?_ | refine gc_seq ?_ | refine gc_region ?_)
  refine gc_condC rfl (fun c7 => ?_) (fun c7 => ?_)
  · have c7 : x.op = 7 := beq_iff_eq.1 c7
    refine gc_draw [[(b3, .cells ⟨x.cells⟩ 43 (0, 0))]] R0 rfl (List.Perm.of_eq rfl) ?_
    (refine aP 0 rfl rfl ?_); (refine aP 1 rfl rfl ?_); (refine aP 2 rfl rfl ?_); (refine aP 3 rfl rfl ?_); (refine aL 4 0 rfl wanted_none rfl rfl rfl rfl rfl ?_); (refine aP 6 rfl rfl ?_); (refine aL 7 0 rfl wanted_none rfl rfl rfl rfl rfl ?_)
    refine aO 5 rfl (fun K hK => ?_)
    refine g_call rfl (Cl.of Tryz.func36 rfl rfl) rfl rfl (fun w' hE => dec_sp x.off w' hP.off (h20.le (fun b o h => old_le hE b o (old_leA _ w _ b o h)))) rfl (fun so hso => ?_)
    obtain rfl := mkB_of hso
    refine g_nil ?_
    refine hK _ _ ⟨R0, List.Perm.of_eq rfl⟩ ?_
    refine aO 8 rfl (fun K hK => ?_)
    refine g_call rfl (Cl.of Tryz.func36 rfl rfl) rfl rfl (fun w' hE => dec_sp x.width w' hP.width (h20.le (fun b o h => old_le hE b o (old_leA _ w _ b o h)))) rfl (fun sw hsw => ?_)
    obtain rfl := mkB_of hsw
    refine g_nil ?_
    refine hK _ _ ⟨R0, List.Perm.of_eq rfl⟩ ?_
    refine aO 9 rfl (fun K hK => ?_)
    refine g_litL rfl rfl rfl rfl rfl rfl rfl rfl rfl rfl (fun g => ?_)
    refine g_heap (R' := R0 ++ [[(g, .cells ⟨([k_copy, argT x.a, argT x.b, Lib.itoa x.off, Lib.itoa x.width] : List (List UInt8)).flatMap strW⟩ 9 (0, 0))], [(b3, .cells ⟨x.cells⟩ 43 (0, 0))]]) (fun w H => hp_permL H List.perm_append_comm) ?_
    refine g_nil ?_
    refine hK _ _ ⟨R0 ++ [[(g, .cells ⟨([k_copy, argT x.a, argT x.b, Lib.itoa x.off, Lib.itoa x.width] : List (List UInt8)).flatMap strW⟩ 9 (0, 0))]], List.perm_append_comm.trans (List.Perm.of_eq (List.append_assoc _ _ _))⟩ ?_
    refine aO 10 rfl (fun K hK => ?_)
    have hW : insW x = [k_copy, argT x.a, argT x.b, Lib.itoa x.off, Lib.itoa x.width] := by simp [insW, c7]
    refine g_call1 (A := R0) (F := [[(g, .cells ⟨([k_copy, argT x.a, argT x.b, Lib.itoa x.off, Lib.itoa x.width] : List (List UInt8)).flatMap strW⟩ 9 (0, 0))], [(b3, .cells ⟨x.cells⟩ 43 (0, 0))]]) rfl rfl (Cl.of Tryz.func35 rfl rfl) rfl rfl (fun w' hE' => lineW_sp b l R0 (some ⟨g, 0, none⟩) 5 5 [k_copy, argT x.a, argT x.b, Lib.itoa x.off, Lib.itoa x.width] w' hB (hp_own hE') (litW_rd (n := 5) (fz := (0, 0)) rfl (by decide) hE') (by simp) rfl (Nat.le_refl _) (by rw [← hW]; exact hlen)) rfl ?_
    intro R1 hR1
    rw [← hW] at hR1
    refine g_nil ?_
    refine hK _ _ ⟨R1 ++ [[(g, .cells ⟨([k_copy, argT x.a, argT x.b, Lib.itoa x.off, Lib.itoa x.width] : List (List UInt8)).flatMap strW⟩ 9 (0, 0))]], List.perm_append_comm.trans (List.Perm.of_eq (List.append_assoc _ _ _))⟩ ?_
    refine ga_nil (by kernel_rfl) ?_
    repeat' (refine gq_block ?_)
    exact gq_ret0 (.inl rfl) rfl rfl (fun w' H => ⟨R1, hR1, rfl, fin_own rfl rfl H⟩)
  have c7 : ¬ x.op = 7 := beq_eq_false_iff_ne.1 c7
  repeat' (first | refine g_pv rfl rfl ?_ | refine g_nil ?_ | refine gq_then ?_ | refine gc_seq ?_ | refine gc_region ?_)
  refine gc_condC rfl (fun c8 => ?_) (fun c8 => ?_)
  · have c8 : x.op = 8 := beq_iff_eq.1 c8
    refine gc_cut (Y := Unit) (fun _ => True) (fun _ => [(0, .pointer (some ⟨b, 0, none⟩)), (3, .pointer (some ⟨b3, 0, none⟩)), (6, .string (mkB (if x.d < 0 then [45] else tmpT x.d)))]) (fun _ => [[(b3, .cells ⟨x.cells⟩ 43 (0, 0))]] ++ R0) ?_ ?_
    · repeat' (first | refine g_pv rfl rfl ?_ | refine g_ld 0 rfl rfl rfl rfl rfl rfl ?_ | refine g_nil ?_ | refine gq_then ?_ | refine gc_seq ?_ | refine gc_region ?_)
      refine gc_condC rfl (fun c0 => ?_) (fun c0 => ?_)
      · have c0 := of_decide_eq_true c0
        repeat' (first | refine g_pv rfl rfl ?_ | refine g_nil ?_ | refine gc_region ?_)
        exact gq_at () trivial ⟨rfl, rfl, by rw [if_pos c0]; rfl, trivial⟩ (fun w' H => H)
      · have c0 := of_decide_eq_false c0
        repeat' (refine gc_skip ?_)
        exact gq_at () trivial ⟨rfl, rfl, by rw [if_neg c0]; rfl, trivial⟩ (fun w' H => H)
    rintro ⟨⟩ -
    have hal := (hP.args c8).2
    have hW : insW x = [k_call, (if x.d < 0 then [45] else tmpT x.d), Lib.itoa x.n] ++ x.args.map argT := by simp [insW, c8]
    generalize (if x.d < 0 then [45] else tmpT x.d) = dd at hW ⊢
    refine gc_seq ?_
    repeat' (first | refine g_pv rfl rfl ?_ | refine g_ld 0 rfl rfl rfl rfl rfl rfl ?_ | refine gc_region ?_)
    refine g_call rfl (Cl.of Tryz.func36 rfl rfl) rfl rfl (fun w' hE => dec_sp x.n w' hx.n (h20.le (fun b o h => old_le hE b o (old_leA _ w _ b o h)))) rfl (fun sn hsn => ?_)
    obtain rfl := mkB_of hsn
    repeat' (fail)
    refine g_litL rfl rfl rfl rfl rfl rfl rfl rfl rfl rfl (fun g => ?_)
    refine g_heap (R' := [[(g, .cells ⟨([k_call, dd, Lib.itoa x.n] : List (List UInt8)).flatMap strW⟩ 9 (0, 0))], [(b3, .cells ⟨x.cells⟩ 43 (0, 0))]] ++ R0) (fun w H => H) ?_
    repeat' (first | refine g_pv rfl rfl ?_ | refine g_nil ?_ | refine gq_then ?_)
    refine gc_seq ?_
    refine gc_seq ?_
    repeat' (first | refine g_pv rfl rfl ?_ | refine g_ld 1 rfl rfl rfl rfl rfl rfl ?_ | refine g_nil ?_ | refine gq_then ?_ | refine gc_region ?_ | refine gc_block ?_)
    try refine gc_block ?_
    refine gc_loop (Y := Value × HL × Nat) (fun y => OwnL 9 1 strW y.1 ([k_call, dd, Lib.itoa x.n] ++ (x.args.take y.2.2).map argT) y.2.1 ∧ y.2.2 ≤ x.args.length)
      (fun y => [(0, .pointer (some ⟨b, 0, none⟩)), (8, y.1), (120, .slice x.aA x.args.length x.aC), (121, .int .i64 x.args.length), (122, .int .i64 y.2.2)]) (fun y => [y.2.1, [(b3, .cells ⟨x.cells⟩ 43 (0, 0))]] ++ R0)
      (fun y => x.args.length - y.2.2) (_, _, 0) ⟨by rw [List.take_zero, List.map_nil, List.append_nil]; exact ownW_lit g _ rfl (by decide), Nat.zero_le _⟩ ⟨rfl, rfl, rfl, rfl, rfl, trivial⟩ (fun w' H => H) ?_
    rintro ⟨v1, A1, k⟩ ⟨ho, hk⟩
    dsimp only at ho hk ⊢
    repeat' (first | refine g_pv rfl rfl ?_ | refine g_nil ?_ | refine gq_then ?_ | refine gc_seq ?_ | refine gc_region ?_)
    refine gc_condC rfl (fun cc => ?_) (fun cc => ?_)
    rotate_left
    · have hge : k = x.args.length := by have := of_decide_eq_false cc; omega
      subst hge
      rw [List.take_length, ← hW] at ho
      obtain ⟨ad1, c1', rfl, hc1', hr1⟩ := ownW_shape ho
      repeat' (first | refine g_pv rfl rfl ?_ | refine gq_then ?_ | refine gc_region ?_ | refine gc_exit ?_ | refine gq_then_exit ?_ | refine gq_block_exit ?_)
      refine g_heap (R' := R0 ++ [A1, [(b3, .cells ⟨x.cells⟩ 43 (0, 0))]]) (fun w H => hp_permL H List.perm_append_comm) ?_
      refine g_call1 (A := R0) (F := [A1, [(b3, .cells ⟨x.cells⟩ 43 (0, 0))]]) rfl rfl (Cl.of Tryz.func35 rfl rfl) rfl rfl (fun w' hE' => lineW_sp b l R0 ad1 _ c1' (insW x) w' hB (hp_own hE') (hr1 (fun b o hb => hp_exc (hp_join hE') (List.mem_append_left _ hb))) (by rw [hW]; simp) rfl hc1' hlen) rfl ?_
      intro R1 hR1
      repeat' (first | refine g_nil ?_ | refine gq_block ?_)
      exact gq_ret0 (.inl rfl) rfl rfl (fun w' H => ⟨R1, hR1, rfl, fin_own rfl rfl H⟩)
    have hlt : k < x.args.length := of_decide_lt cc
    have hxk : x.args[k]? = some (x.args[k]) := List.getElem?_eq_getElem hlt
    have hak := hx.ok x.args[k] (List.mem_append_right _ (List.getElem_mem hlt))
    have htk : (x.args.take (k + 1)).map argT = (x.args.take k).map argT ++ [argT x.args[k]] := by rw [List.take_add_one, hxk, List.map_append]; rfl
    generalize x.args[k] = a at hxk hak htk
    repeat' (first | refine gq_then ?_ | refine gc_seq ?_ | refine gc_region ?_ | refine gc_block ?_ | refine gc_skip ?_)
    refine g_at (l := x.args) (f := Arg.cells) (u := a) rfl rfl rfl rfl rfl (Int.natCast_nonneg k) (by omega) (hx.args.le (old_leA _ w _)) hxk rfl rfl rfl rfl (fun ad => ?_)
    repeat' (first | refine g_pv rfl rfl ?_ | refine g_ld 0 rfl rfl rfl rfl rfl rfl ?_ | refine g_nil ?_ | refine gq_then ?_ | refine gc_region ?_ | refine g_alloc rfl rfl (fun _ => ?_) | refine g_st 0 rfl rfl rfl rfl rfl rfl rfl ?_)
    rename_i b10
    refine g_call rfl (Cl.of Tryz.func59 rfl rfl) rfl rfl (fun w' hE => argt_sp a w' hak (h20.le (fun b o h => old_le hE b o (old_leA _ w _ b o h)))) rfl (fun sy hsy => ?_)
    obtain rfl := mkB_of hsy
    have hl1 : ([k_call, dd, Lib.itoa x.n] ++ (x.args.take k).map argT).length ≤ 3 + 8 := by simp; omega
    refine g_app1L 1 (f := strW) (q := argT a) rfl rfl rfl rfl rfl rfl rfl rfl rfl rfl rfl rfl ho (Nat.le_trans (Nat.add_le_add_right hl1 1) (by decide)) (Nat.le_trans (Nat.mul_le_mul_right 16 (Nat.add_le_add_right hl1 1)) (by decide)) rfl rfl (fun v2 A2 g2 ho2 => ?_)
    rw [List.append_assoc, ← htk] at ho2
    repeat' (first | refine g_pv rfl rfl ?_ | refine g_nil ?_ | refine gq_then ?_ | refine gc_region ?_ | refine gq_block ?_)
    exact gq_again (v2, A2, k + 1) ⟨ho2, hlt⟩ (by dsimp only; omega) ⟨rfl, rfl, rfl, rfl, inc_eq (by omega), trivial⟩ (fun w' H => hp_tail H)
  have c8 : ¬ x.op = 8 := beq_eq_false_iff_ne.1 c8
  repeat' (first | refine g_pv rfl rfl ?_ | refine g_nil ?_ | refine gq_then ?_ | refine gc_seq ?_ | refine gc_region ?_)
  refine gc_condC rfl (fun c9 => ?_) (fun c9 => ?_)
  · have c9 : x.op = 9 := beq_iff_eq.1 c9
    repeat' (first | refine g_pv rfl rfl ?_ | refine g_ld 0 rfl rfl rfl rfl rfl rfl ?_ | refine g_nil ?_ | refine gq_then ?_ | refine gc_seq ?_ | refine gc_region ?_)
    refine gc_condC rfl (fun c0 => ?_) (fun c0 => ?_)
    · have c0 : x.a.k = 0 := beq_iff_eq.1 c0
      repeat' (first | refine g_pv rfl rfl ?_ | refine gc_region ?_)
      refine g_litL rfl rfl rfl rfl rfl rfl rfl rfl rfl rfl (fun g => ?_)
      refine g_heap (R' := R0 ++ [[(g, .cells ⟨([k_ret] : List (List UInt8)).flatMap strW⟩ 9 (0, 0))], [(b3, .cells ⟨x.cells⟩ 43 (0, 0))]]) (fun w H => hp_permL H List.perm_append_comm) ?_
      have hW : insW x = [k_ret] := by simp [insW, c9, c0]
      refine g_call1 (A := R0) (F := [[(g, .cells ⟨([k_ret] : List (List UInt8)).flatMap strW⟩ 9 (0, 0))], [(b3, .cells ⟨x.cells⟩ 43 (0, 0))]]) rfl rfl (Cl.of Tryz.func35 rfl rfl) rfl rfl (fun w' hE' => lineW_sp b l R0 (some ⟨g, 0, none⟩) 1 1 [k_ret] w' hB (hp_own hE') (litW_rd (n := 1) (fz := (0, 0)) rfl (by decide) hE') (by simp) rfl (Nat.le_refl _) (by rw [← hW]; exact hlen)) rfl ?_
      intro R1 hR1
      rw [← hW] at hR1
      repeat' (first | refine g_nil ?_ | refine gq_block ?_)
      exact gq_ret0 (.inl rfl) rfl rfl (fun w' H => ⟨R1, hR1, rfl, fin_own rfl rfl H⟩)
    · have c0 : ¬ x.a.k = 0 := beq_eq_false_iff_ne.1 c0
      repeat' (first | refine g_pv rfl rfl ?_ | refine gc_region ?_)
      refine g_litL rfl rfl rfl rfl rfl rfl rfl rfl rfl rfl (fun g => ?_)
      refine g_heap (R' := R0 ++ [[(g, .cells ⟨([k_ret, argT x.a] : List (List UInt8)).flatMap strW⟩ 9 (0, 0))], [(b3, .cells ⟨x.cells⟩ 43 (0, 0))]]) (fun w H => hp_permL H List.perm_append_comm) ?_
      have hW : insW x = [k_ret, argT x.a] := by simp [insW, c9, c0]
      refine g_call1 (A := R0) (F := [[(g, .cells ⟨([k_ret, argT x.a] : List (List UInt8)).flatMap strW⟩ 9 (0, 0))], [(b3, .cells ⟨x.cells⟩ 43 (0, 0))]]) rfl rfl (Cl.of Tryz.func35 rfl rfl) rfl rfl (fun w' hE' => lineW_sp b l R0 (some ⟨g, 0, none⟩) 2 2 [k_ret, argT x.a] w' hB (hp_own hE') (litW_rd (n := 2) (fz := (0, 0)) rfl (by decide) hE') (by simp) rfl (Nat.le_refl _) (by rw [← hW]; exact hlen)) rfl ?_
      intro R1 hR1
      rw [← hW] at hR1
      repeat' (first | refine g_nil ?_ | refine gq_block ?_)
      exact gq_ret0 (.inl rfl) rfl rfl (fun w' H => ⟨R1, hR1, rfl, fin_own rfl rfl H⟩)
  have c9 : ¬ x.op = 9 := beq_eq_false_iff_ne.1 c9
  repeat' (first | refine g_pv rfl rfl ?_ | refine g_nil ?_ | refine gq_then ?_ | refine gc_seq ?_ | refine gc_region ?_)
  refine gc_condC rfl (fun c10 => ?_) (fun c10 => ?_)
  · have c10 : x.op = 10 := beq_iff_eq.1 c10
    repeat' (first | refine g_pv rfl rfl ?_ | refine g_ld 0 rfl rfl rfl rfl rfl rfl ?_ | refine gc_region ?_)
    refine g_call rfl (Cl.of Tryz.func36 rfl rfl) rfl rfl (fun w' hE => dec_sp x.n w' hx.n (h20.le (fun b o h => old_le hE b o (old_leA _ w _ b o h)))) rfl (fun sn hsn => ?_)
    obtain rfl := mkB_of hsn
    repeat' (fail)
    refine g_litL rfl rfl rfl rfl rfl rfl rfl rfl rfl rfl (fun g => ?_)
    refine g_heap (R' := R0 ++ [[(g, .cells ⟨([k_jump, Lib.itoa x.n] : List (List UInt8)).flatMap strW⟩ 9 (0, 0))], [(b3, .cells ⟨x.cells⟩ 43 (0, 0))]]) (fun w H => hp_permL H List.perm_append_comm) ?_
    have hW : insW x = [k_jump, Lib.itoa x.n] := by simp [insW, c10]
    refine g_call1 (A := R0) (F := [[(g, .cells ⟨([k_jump, Lib.itoa x.n] : List (List UInt8)).flatMap strW⟩ 9 (0, 0))], [(b3, .cells ⟨x.cells⟩ 43 (0, 0))]]) rfl rfl (Cl.of Tryz.func35 rfl rfl) rfl rfl (fun w' hE' => lineW_sp b l R0 (some ⟨g, 0, none⟩) 2 2 [k_jump, Lib.itoa x.n] w' hB (hp_own hE') (litW_rd (n := 2) (fz := (0, 0)) rfl (by decide) hE') (by simp) rfl (Nat.le_refl _) (by rw [← hW]; exact hlen)) rfl ?_
    intro R1 hR1
    rw [← hW] at hR1
    repeat' (first | refine g_nil ?_ | refine gq_block ?_)
    exact gq_ret0 (.inl rfl) rfl rfl (fun w' H => ⟨R1, hR1, rfl, fin_own rfl rfl H⟩)
  have c10 : ¬ x.op = 10 := beq_eq_false_iff_ne.1 c10
  repeat' (first | refine g_pv rfl rfl ?_ | refine g_nil ?_ | refine gq_then ?_ | refine gc_seq ?_ | refine gc_region ?_)
  refine gc_condC rfl (fun c11 => ?_) (fun c11 => ?_)
  · have c11 : x.op = 11 := beq_iff_eq.1 c11
    repeat' (first | refine g_pv rfl rfl ?_ | refine g_ld 0 rfl rfl rfl rfl rfl rfl ?_ | refine gc_region ?_)
    refine g_call rfl (Cl.of Tryz.func36 rfl rfl) rfl rfl (fun w' hE => dec_sp x.n w' hx.n (h20.le (fun b o h => old_le hE b o (old_leA _ w _ b o h)))) rfl (fun sn hsn => ?_)
    obtain rfl := mkB_of hsn
    repeat' (fail)
    refine g_litL rfl rfl rfl rfl rfl rfl rfl rfl rfl rfl (fun g => ?_)
    refine g_heap (R' := R0 ++ [[(g, .cells ⟨([k_branch, argT x.a, Lib.itoa x.n] : List (List UInt8)).flatMap strW⟩ 9 (0, 0))], [(b3, .cells ⟨x.cells⟩ 43 (0, 0))]]) (fun w H => hp_permL H List.perm_append_comm) ?_
    have hW : insW x = [k_branch, argT x.a, Lib.itoa x.n] := by simp [insW, c11]
    refine g_call1 (A := R0) (F := [[(g, .cells ⟨([k_branch, argT x.a, Lib.itoa x.n] : List (List UInt8)).flatMap strW⟩ 9 (0, 0))], [(b3, .cells ⟨x.cells⟩ 43 (0, 0))]]) rfl rfl (Cl.of Tryz.func35 rfl rfl) rfl rfl (fun w' hE' => lineW_sp b l R0 (some ⟨g, 0, none⟩) 3 3 [k_branch, argT x.a, Lib.itoa x.n] w' hB (hp_own hE') (litW_rd (n := 3) (fz := (0, 0)) rfl (by decide) hE') (by simp) rfl (Nat.le_refl _) (by rw [← hW]; exact hlen)) rfl ?_
    intro R1 hR1
    rw [← hW] at hR1
    repeat' (first | refine g_nil ?_ | refine gq_block ?_)
    exact gq_ret0 (.inl rfl) rfl rfl (fun w' H => ⟨R1, hR1, rfl, fin_own rfl rfl H⟩)
  have c11 : ¬ x.op = 11 := beq_eq_false_iff_ne.1 c11
  repeat' (first | refine g_pv rfl rfl ?_ | refine g_nil ?_ | refine gq_then ?_ | refine gc_seq ?_ | refine gc_region ?_)
  refine gc_condC rfl (fun c12 => ?_) (fun c12 => ?_)
  · have c12 : x.op = 12 := beq_iff_eq.1 c12
    repeat' (first | refine g_pv rfl rfl ?_ | refine gc_region ?_)
    refine g_litL rfl rfl rfl rfl rfl rfl rfl rfl rfl rfl (fun g => ?_)
    refine g_heap (R' := R0 ++ [[(g, .cells ⟨([k_put, argT x.a] : List (List UInt8)).flatMap strW⟩ 9 (0, 0))], [(b3, .cells ⟨x.cells⟩ 43 (0, 0))]]) (fun w H => hp_permL H List.perm_append_comm) ?_
    have hW : insW x = [k_put, argT x.a] := by simp [insW, c12]
    refine g_call1 (A := R0) (F := [[(g, .cells ⟨([k_put, argT x.a] : List (List UInt8)).flatMap strW⟩ 9 (0, 0))], [(b3, .cells ⟨x.cells⟩ 43 (0, 0))]]) rfl rfl (Cl.of Tryz.func35 rfl rfl) rfl rfl (fun w' hE' => lineW_sp b l R0 (some ⟨g, 0, none⟩) 2 2 [k_put, argT x.a] w' hB (hp_own hE') (litW_rd (n := 2) (fz := (0, 0)) rfl (by decide) hE') (by simp) rfl (Nat.le_refl _) (by rw [← hW]; exact hlen)) rfl ?_
    intro R1 hR1
    rw [← hW] at hR1
    repeat' (first | refine g_nil ?_ | refine gq_block ?_)
    exact gq_ret0 (.inl rfl) rfl rfl (fun w' H => ⟨R1, hR1, rfl, fin_own rfl rfl H⟩)
  have c12 : ¬ x.op = 12 := beq_eq_false_iff_ne.1 c12
  repeat' (first | refine g_pv rfl rfl ?_ | refine g_nil ?_ | refine gq_then ?_ | refine gc_seq ?_ | refine gc_region ?_)
  refine gc_condC rfl (fun c13 => ?_) (fun c13 => ?_)
  · have c13 : x.op = 13 := beq_iff_eq.1 c13
    repeat' (first | refine g_pv rfl rfl ?_ | refine gc_region ?_)
    refine g_litL rfl rfl rfl rfl rfl rfl rfl rfl rfl rfl (fun g => ?_)
    refine g_heap (R' := R0 ++ [[(g, .cells ⟨([k_get, tmpT x.d] : List (List UInt8)).flatMap strW⟩ 9 (0, 0))], [(b3, .cells ⟨x.cells⟩ 43 (0, 0))]]) (fun w H => hp_permL H List.perm_append_comm) ?_
    have hW : insW x = [k_get, tmpT x.d] := by simp [insW, c13]
    refine g_call1 (A := R0) (F := [[(g, .cells ⟨([k_get, tmpT x.d] : List (List UInt8)).flatMap strW⟩ 9 (0, 0))], [(b3, .cells ⟨x.cells⟩ 43 (0, 0))]]) rfl rfl (Cl.of Tryz.func35 rfl rfl) rfl rfl (fun w' hE' => lineW_sp b l R0 (some ⟨g, 0, none⟩) 2 2 [k_get, tmpT x.d] w' hB (hp_own hE') (litW_rd (n := 2) (fz := (0, 0)) rfl (by decide) hE') (by simp) rfl (Nat.le_refl _) (by rw [← hW]; exact hlen)) rfl ?_
    intro R1 hR1
    rw [← hW] at hR1
    repeat' (first | refine g_nil ?_ | refine gq_block ?_)
    exact gq_ret0 (.inl rfl) rfl rfl (fun w' H => ⟨R1, hR1, rfl, fin_own rfl rfl H⟩)
  have c13 : ¬ x.op = 13 := beq_eq_false_iff_ne.1 c13
  repeat' (first | refine g_pv rfl rfl ?_ | refine g_nil ?_ | refine gq_then ?_ | refine gc_seq ?_ | refine gc_region ?_)
  refine gc_condC rfl (fun c14 => ?_) (fun c14 => ?_)
  · have c14 : x.op = 14 := beq_iff_eq.1 c14
    repeat' (first | refine g_pv rfl rfl ?_ | refine gc_region ?_)
    refine g_litL rfl rfl rfl rfl rfl rfl rfl rfl rfl rfl (fun g => ?_)
    refine g_heap (R' := R0 ++ [[(g, .cells ⟨([k_exit, argT x.a] : List (List UInt8)).flatMap strW⟩ 9 (0, 0))], [(b3, .cells ⟨x.cells⟩ 43 (0, 0))]]) (fun w H => hp_permL H List.perm_append_comm) ?_
    have hW : insW x = [k_exit, argT x.a] := by simp [insW, c14]
    refine g_call1 (A := R0) (F := [[(g, .cells ⟨([k_exit, argT x.a] : List (List UInt8)).flatMap strW⟩ 9 (0, 0))], [(b3, .cells ⟨x.cells⟩ 43 (0, 0))]]) rfl rfl (Cl.of Tryz.func35 rfl rfl) rfl rfl (fun w' hE' => lineW_sp b l R0 (some ⟨g, 0, none⟩) 2 2 [k_exit, argT x.a] w' hB (hp_own hE') (litW_rd (n := 2) (fz := (0, 0)) rfl (by decide) hE') (by simp) rfl (Nat.le_refl _) (by rw [← hW]; exact hlen)) rfl ?_
    intro R1 hR1
    rw [← hW] at hR1
    repeat' (first | refine g_nil ?_ | refine gq_block ?_)
    exact gq_ret0 (.inl rfl) rfl rfl (fun w' H => ⟨R1, hR1, rfl, fin_own rfl rfl H⟩)
  have c14 : ¬ x.op = 14 := beq_eq_false_iff_ne.1 c14
  have := hP.op
  omega
end Go.Proofs.YtpohhfggmaihpaaGreatDoor

/- Bytes in hexadecimal: tac's hex, the document's data. -/
namespace Go.Proofs.YtpohhfggmaihpaaGreatDoor
open Go.Wk
set_option linter.unusedVariables false
set_option linter.unusedSimpArgs false
attribute [local irreducible] G GC GQ GA GS Exit.then Exit.inBlock

def hexd : List UInt8 := [48, 49, 50, 51, 52, 53, 54, 55, 56, 57, 97, 98, 99, 100, 101, 102]
def hd (n : Int) : UInt8 := hexd.getD n.toNat 0
def hex2 (n : Int) : List UInt8 := [hd (n / 16), hd (n % 16)]
def trimZ (l : List Int) : List Int := (l.reverse.dropWhile (· == 0)).reverse
def hexB (l : List Int) : List UInt8 := (trimZ l).flatMap hex2
theorem trimZ_zero (l : List Int) : trimZ (l ++ [0]) = trimZ l := by simp [trimZ]
theorem trimZ_one {l : List Int} {x : Int} (h : x ≠ 0) : trimZ (l ++ [x]) = l ++ [x] := by simp [trimZ, h]
theorem take_suc {l : List Int} {n : Nat} {x : Int} (h : l[n]? = some x) : l.take (n + 1) = l.take n ++ [x] := by rw [List.take_add_one, h]; rfl
theorem hex2_len (l : List Int) : (l.flatMap hex2).length = 2 * l.length := by
  induction l with
  | nil => rfl
  | cons a r ih => rw [List.flatMap_cons, List.length_append, ih, List.length_cons]; show 2 + _ = _; omega
theorem hexd_at {n : Int} (h0 : 0 ≤ n) (h1 : n < 16) : (⟨#[48, 49, 50, 51, 52, 53, 54, 55, 56, 57, 97, 98, 99, 100, 101, 102]⟩ : ByteArray).data.toList[n.toNat]? = some (hd n) := by
  have hl : n.toNat < hexd.length := by show _ < 16; omega
  have : hexd[n.toNat]? = some (hd n) := by unfold hd; rw [List.getD_eq_getElem?_getD, List.getElem?_eq_getElem hl]; rfl
  exact this
theorem and15_all : ((List.range 256).all fun n => IntKind.u8.wrap ((BitVec.ofInt 8 (n : Int) &&& BitVec.ofInt 8 15).toNat : Int) == (n : Int) % 16) = true := by kernel_rfl
theorem and15 {b : Int} (h : 0 ≤ b ∧ b ≤ 255) : IntKind.u8.wrap ((BitVec.ofInt 8 b &&& BitVec.ofInt 8 15).toNat : Int) = b % 16 := by
  have := List.all_eq_true.1 and15_all b.toNat (List.mem_range.2 (by omega))
  rw [show ((b.toNat : Nat) : Int) = b from by omega] at this
  exact beq_iff_eq.1 this
theorem rdB {h : Nat → Option Obj} {A : Option Addr} {l : List Int} (hr : Rd h fB 1 A l) {n : Nat} {x : Int} (hx : l[n]? = some x) : ∃ b o, A = some ⟨b, o, none⟩ ∧ ∀ (i : Nat) (u : Value), [Value.int .u8 x][i]? = some u → cellAt h b (o + ((n : Int)).toNat * 1 + i) = some u := by
  obtain ⟨b, o, hA, hc⟩ := hr n x hx
  exact ⟨b, o, hA, fun i u hu => hc i u hu⟩
theorem pair_rd {h : Nat → Option Obj} {g : Nat} {c d : UInt8} {e : TypeId} {fz : Nat × Nat} (hg : h g = some (.cells ⟨[.int .u8 c.toNat, .int .u8 d.toNat]⟩ e fz)) : ∀ (j : Nat) (u : Value), (bcells [c, d])[j]? = some u → cellAt h g (0 + j) = some u := fun j u hu => by
  unfold cellAt
  rw [hg, Nat.zero_add]
  simpa [bcells] using hu
set_option maxHeartbeats 16000000 in
theorem hex_sp (l : List Int) (A : Option Addr) (c : Nat) (w : World) (hr : Rd (hw w) fB 1 A l) (hc : l.length ≤ c) (hb : ∀ b ∈ l, 0 ≤ b ∧ b ≤ 255) (hs : l.length ≤ 1099511627776) :
    Sp Tryz.prog 37 [.slice A l.length c] w [] (fun s : ByteArray => .string s) (fun _ => []) (fun s => bytesL s = hexB l) := by
  refine enter (s := Tryz.sx) [] Tryz.func37 rfl rfl rfl (Eff.refl w) ?_
  refine gc_seq ?_
  repeat' (first | refine g_pv rfl rfl ?_ | refine g_nil ?_ | refine gq_then ?_ | refine gc_region ?_)
  refine gc_cut (Y := Nat) (fun n => n ≤ l.length ∧ trimZ l = l.take n) (fun n => [(0, .slice A n c)]) (fun _ => []) ?_ ?_
  · refine gc_block ?_
    refine gc_loop (Y := Nat) (fun n => n ≤ l.length ∧ trimZ l = trimZ (l.take n)) (fun n => [(0, .slice A n c)]) (fun n => []) (fun n => n) l.length ⟨Nat.le_refl _, by rw [List.take_length]⟩ ⟨rfl, trivial⟩ (fun w' H => H) ?_
    rintro n ⟨hn, ht⟩
    dsimp only at hn ht ⊢
    repeat' (first | refine g_pv rfl rfl ?_ | refine gc_seq ?_ | refine gc_region ?_)
    refine g_case (t := 9) rfl (fun h1 => ?_) (fun h1 => ?_)
    rotate_left
    · have h2 := of_decide_eq_false h1
      have h0 : n = 0 := by omega
      repeat' (first | refine g_pv rfl rfl ?_ | refine g_nil ?_ | refine gq_then ?_ | refine gc_cond_f rfl ?_ | refine gc_exit ?_ | refine gq_then_exit ?_ | refine gq_block_exit ?_ | refine g_no rfl rfl rfl rfl rfl ?_)
      exact gq_at n ⟨hn, by rw [ht, h0]; rfl⟩ ⟨rfl, trivial⟩ (fun w' H => H)
    have h2 := of_decide_eq_true h1
    obtain ⟨m, rfl⟩ : ∃ m, n = m + 1 := ⟨n - 1, by omega⟩
    have hxm : l[m]? = some (l[m]'(by omega)) := List.getElem?_eq_getElem (by omega)
    generalize l[m]'(by omega) = x at hxm
    have htk := take_suc hxm
    obtain ⟨bb, oo, rfl, hcq⟩ := rdB hr hxm
    repeat' (first | refine g_pv rfl rfl ?_ | refine g_yes rfl rfl rfl ?_)
    refine g_eq 13 (u' := .int .i64 m) rfl (congrArg (Value.int .i64) (by rw [IntKind.wrap_i64]; omega)) ?_
    refine g_p (p_ix (bx := bb) (o := oo) rfl rfl rfl rfl (Int.natCast_nonneg m) (by omega)) rfl ?_
    repeat' (refine g_yes rfl rfl rfl ?_)
    refine g_ldO rfl rfl (cs := [.int .u8 x]) rfl rfl (fun i u hu => (old_le0 _ w).cell (hcq i u hu)) rfl ?_
    repeat' (first | refine g_pv rfl rfl ?_ | refine g_nil ?_ | refine gq_then ?_ | refine g_yes rfl rfl rfl ?_)
    refine gc_condC rfl (fun h3 => ?_) (fun h3 => ?_)
    · have hx0 : x = 0 := beq_iff_eq.1 h3
      repeat' (first | refine g_pv rfl rfl ?_ | refine gq_then ?_ | refine gc_region ?_ | refine gc_block ?_ | refine gc_skip ?_)
      refine g_eq 21 (u' := .int .i64 m) rfl (congrArg (Value.int .i64) (by rw [IntKind.wrap_i64]; omega)) ?_
      refine g_p (p_slH rfl rfl rfl rfl (by omega)) rfl ?_
      repeat' (first | refine g_pv rfl rfl ?_ | refine g_nil ?_ | refine gq_block ?_)
      exact gq_again m ⟨by omega, by rw [ht, htk, hx0, trimZ_zero]⟩ (Nat.lt_succ_self m) ⟨rfl, trivial⟩ (fun w' H => H)
    · have hx0 : x ≠ 0 := beq_eq_false_iff_ne.1 h3
      repeat' (first | refine gc_exit ?_ | refine gq_then_exit ?_ | refine gq_block_exit ?_)
      exact gq_at (m + 1) ⟨hn, by rw [ht, htk, trimZ_one hx0]⟩ ⟨rfl, trivial⟩ (fun w' H => H)
  rintro n ⟨hn, ht⟩
  dsimp only at hn ht ⊢
  refine gc_seq ?_
  repeat' (first | refine g_pv rfl rfl ?_ | refine g_nil ?_ | refine gq_then ?_ | refine gc_region ?_)
  refine gc_seq ?_
  repeat' (first | refine g_pv rfl rfl ?_ | refine g_nil ?_ | refine gq_then ?_ | refine gc_seq ?_ | refine gc_region ?_ | refine gc_block ?_)
  refine gc_loop (Y := Value × HL × Nat) (fun y => OwnZ 5 1 y.1 (2 * y.2.2) (bcells ((l.take y.2.2).flatMap hex2)) y.2.1 ∧ y.2.2 ≤ n) (fun y => [(3, y.1), (23, .slice A n c), (24, .int .i64 n), (25, .int .i64 y.2.2)]) (fun y => [y.2.1])
    (fun y => n - y.2.2) (.slice none 0 0, [], 0) ⟨⟨rfl, .inl ⟨rfl, rfl, rfl⟩⟩, Nat.zero_le _⟩ ⟨rfl, rfl, rfl, rfl, trivial⟩ (fun w' H => hp_perm H (by simp)) ?_
  rintro ⟨v, B, k⟩ ⟨ho, hk⟩
  dsimp only at ho hk ⊢
  repeat' (first | refine g_pv rfl rfl ?_ | refine g_nil ?_ | refine gq_then ?_ | refine gc_seq ?_ | refine gc_region ?_)
  refine gc_condC rfl (fun h1 => ?_) (fun h1 => ?_)
  rotate_left
  · have hkn : k = n := by have := of_decide_eq_false h1; omega
    subst hkn
    rw [← ht] at ho
    have he : 2 * k = (hexB l).length := by unfold hexB; rw [hex2_len, ht, List.length_take]; omega
    have ho' : OwnZ 5 1 v (hexB l).length (bcells (hexB l)) B := he ▸ ho
    obtain ⟨ad, c', rfl⟩ := ho'.shape
    repeat' (first | refine g_pv rfl rfl ?_ | refine gq_then ?_ | refine gc_seq ?_ | refine gc_region ?_ | refine gc_exit ?_ | refine gq_then_exit ?_ | refine gq_block_exit ?_)
    refine g_bstr (l := hexB l) rfl rfl rfl rfl rfl (fun w' H => ?_) ?_
    · obtain ⟨ad2, c2, he2, hr2⟩ := ownZ_rd (w := w') ho' (fun b o hb => hp_in H 0 rfl b o hb)
      cases he2; exact hr2
    repeat' (first | refine g_pv rfl rfl ?_ | refine g_nil ?_ | refine gq_then ?_ | refine gc_ret ?_)
    exact gq_ret1 (.inr rfl) rfl rfl rfl (fun w' H => ⟨_, rfl, rfl, hp_nil H⟩)
  have hlt := of_decide_lt h1
  have hxk : l[k]? = some (l[k]'(by omega)) := List.getElem?_eq_getElem (by omega)
  have hbk := hb _ (List.mem_of_getElem? hxk)
  generalize l[k]'(by omega) = x at hxk hbk
  have htk : (l.take (k + 1)).flatMap hex2 = (l.take k).flatMap hex2 ++ hex2 x := by rw [take_suc hxk, List.flatMap_append]; simp
  repeat' (first | refine gq_then ?_ | refine gc_seq ?_ | refine gc_region ?_ | refine gc_block ?_ | refine gc_skip ?_)
  refine g_at (l := l) (f := fB) (u := x) rfl rfl rfl rfl rfl (Int.natCast_nonneg k) (by omega) (hr.le (old_le0 _ w)) hxk rfl rfl rfl rfl (fun ad => ?_)
  repeat' (first | refine g_pv rfl rfl ?_ | refine g_nil ?_ | refine gq_then ?_)
  refine gc_draw [] [B] rfl (List.Perm.of_eq rfl) ?_
  (refine aP 0 rfl rfl ?_); (refine aP 1 rfl rfl ?_)
  refine aQ 2 rfl (p_shr8 rfl rfl (by decide) (by decide)) ?_
  refine ga_eq 31 (u' := .int .u8 (x / 16)) rfl rfl ?_
  refine aQ 3 rfl (p_idxT rfl rfl rfl (by omega) (hexd_at (by omega) (by omega))) ?_
  (refine aP 4 rfl rfl ?_); (refine aP 5 rfl rfl ?_)
  refine ga_eq 34 (u' := .int .u8 (x % 16)) rfl (congrArg (Value.int .u8) (and15 hbk)) ?_
  refine aQ 6 rfl (p_idxT rfl rfl rfl (by omega) (hexd_at (by omega) (by omega))) ?_
  refine aO 7 rfl (fun K hK => ?_)
  refine g_litL rfl rfl rfl rfl rfl rfl rfl rfl rfl rfl (fun g => ?_)
  refine g_nil ?_
  refine hK _ _ ⟨[_, B], List.Perm.of_eq rfl⟩ ?_
  refine aO 8 rfl (fun K hK => ?_)
  refine g_appZ 1 (news := bcells (hex2 x)) rfl rfl rfl rfl rfl rfl rfl ho rfl (by decide) (fun w' H j u hu => by rw [addr_add, ← cellAt_hw]; exact pair_rd (hp_in H 0 rfl g _ List.mem_cons_self) j u hu) (by simp [bcells, hex2, Value.oneCell']) (by unfold maxLen; omega) (by show (2 * k + 2) * 1 ≤ _; omega) rfl (fun v2 B2 ho2 => ?_)
  refine g_nil ?_
  refine hK _ _ ⟨[_, B2], List.Perm.of_eq rfl⟩ ?_
  (refine aP 9 rfl rfl ?_)
  refine ga_nil (by kernel_rfl) ?_
  rw [← bcells_append, ← htk] at ho2
  repeat' (first | refine g_pv rfl rfl ?_ | refine g_nil ?_ | refine gq_then ?_ | refine gc_region ?_ | refine gq_block ?_)
  exact gq_again (v2, B2, k + 1) ⟨ho2, hlt⟩ (by dsimp only; omega) ⟨rfl, rfl, rfl, inc_eq (by omega), trivial⟩ (fun w' H => hp_tail H)
end Go.Proofs.YtpohhfggmaihpaaGreatDoor

/- A program's lines, tac's words and the document's; how long the text may be. -/
namespace Go.Proofs.YtpohhfggmaihpaaGreatDoor
open Go.Wk
set_option linter.unusedVariables false
set_option linter.unusedSimpArgs false
attribute [local irreducible] G GC GQ GA GS Exit.then Exit.inBlock

def relW (r : Rel) : List Bs := [k_reloc, Lib.itoa r.off, Lib.itoa r.gl, Lib.itoa r.add]
def ob0 (o : Ob) : List Bs := [k_object, bytesL o.nm, Lib.itoa o.size, Lib.itoa o.align]
def obD (o : Ob) : List (List Bs) := if hexB o.bytes = [] then [] else [[k_data, hexB o.bytes]]
def obW (o : Ob) : List (List Bs) := [ob0 o] ++ obD o ++ o.rels.map relW
def slotW (s : Slt) : List Bs := [k_slot, Lib.itoa s.size, Lib.itoa s.align]
def fn0W (f : Fn) : List Bs := [k_func, bytesL f.nm, Lib.itoa f.pa, Lib.itoa f.te] ++ (if f.gi then [k_gives] else [])
def fnW (f : Fn) : List (List Bs) := [fn0W f] ++ f.slots.map slotW ++ f.code.map insW
def mainW (p : Pr) : List Bs := [k_main, Lib.itoa p.main]
def prW (p : Pr) : List (List Bs) := p.obs.flatMap obW ++ p.fns.flatMap fnW ++ [mainW p]
def lnB (W : List Bs) : Bs := Lib.join W [32] ++ [10]
def txt (L : List (List Bs)) : Bs := L.flatMap lnB
theorem txt_app (L M : List (List Bs)) : txt (L ++ M) = txt L ++ txt M := List.flatMap_append
theorem txt_snoc (L : List (List Bs)) (W : List Bs) : txt (L ++ [W]) = txt L ++ lnB W := by rw [txt_app]; simp [txt]
theorem txt_pre {L M : List (List Bs)} (h : L <+: M) : (txt L).length ≤ (txt M).length := by
  obtain ⟨t, rfl⟩ := h
  rw [txt_app, List.length_append]; omega
theorem lnB_len (W : List Bs) : (lnB W).length = (Lib.join W [32]).length + 1 := by unfold lnB; rw [List.length_append]; rfl
/-- Room for one line more. -/
theorem txt_room {L M : List (List Bs)} {W : List Bs} {n : Nat} (h : L ++ [W] <+: M) (hM : (txt M).length ≤ n) : (txt L).length + ((Lib.join W [32]).length + 1) ≤ n := by
  have := txt_pre h
  rw [txt_snoc, List.length_append, lnB_len] at this
  omega
theorem pre_left {α : Type} {a b c : List α} (h : b <+: c) : a ++ b <+: a ++ c := by
  obtain ⟨t, rfl⟩ := h; exact ⟨t, List.append_assoc _ _ _⟩
theorem take_flat {α β : Type} (f : α → List β) {l : List α} {i : Nat} {x : α} (h : l[i]? = some x) : (l.take (i + 1)).flatMap f = (l.take i).flatMap f ++ f x := by
  rw [List.take_add_one, h, List.flatMap_append]; simp
theorem take_flat_pre {α β : Type} (f : α → List β) (l : List α) (i : Nat) : (l.take i).flatMap f <+: l.flatMap f := by
  obtain ⟨t, ht⟩ := List.take_prefix i l
  exact ⟨t.flatMap f, by rw [← List.flatMap_append, ht]⟩
/-- What is ahead in an object's lines is ahead in the program's. -/
theorem ob_pre {p : Pr} {i : Nat} {o : Ob} {q : List (List Bs)} (h : p.obs[i]? = some o) (hq : q <+: obW o) : (p.obs.take i).flatMap obW ++ q <+: prW p := by
  refine (pre_left hq).trans ?_
  rw [← take_flat obW h]
  exact (take_flat_pre obW p.obs (i + 1)).trans (List.IsPrefix.trans (List.prefix_append _ (p.fns.flatMap fnW)) (List.prefix_append _ _))
theorem fn_pre {p : Pr} {i : Nat} {f : Fn} {q : List (List Bs)} (h : p.fns[i]? = some f) (hq : q <+: fnW f) : p.obs.flatMap obW ++ (p.fns.take i).flatMap fnW ++ q <+: prW p := by
  unfold prW
  rw [List.append_assoc, List.append_assoc]
  refine pre_left ?_
  refine (pre_left hq).trans ?_
  rw [← take_flat fnW h]
  exact (take_flat_pre fnW p.fns (i + 1)).trans (List.prefix_append _ _)

/-! ### The document's lines -/
theorem hexB_nil (l : List Int) : hexB l = [] ↔ trimZ l = [] := by
  unfold hexB
  cases trimZ l with
  | nil => simp
  | cons a r => simp [hex2]
theorem flatMap_eq {α β : Type} {f g : α → List β} : ∀ {l : List α}, (∀ x ∈ l, f x = g x) → l.flatMap f = l.flatMap g
  | [], _ => rfl
  | a :: r, h => by rw [List.flatMap_cons, List.flatMap_cons, h a List.mem_cons_self, flatMap_eq (fun x hx => h x (List.mem_cons_of_mem _ hx))]
end Go.Proofs.YtpohhfggmaihpaaGreatDoor

/- How long a right program's text may be. -/
namespace Go.Proofs.YtpohhfggmaihpaaGreatDoor
open Go.Wk
set_option linter.unusedVariables false
set_option linter.unusedSimpArgs false
attribute [local irreducible] G GC GQ GA GS Exit.then Exit.inBlock

def cost (W : List Bs) : Nat := (W.map fun x => x.length + 1).sum
theorem lnB_cost : ∀ W : List Bs, (lnB W).length ≤ cost W + 1
  | [] => by simp [lnB, cost, Lib.join_nil]
  | x :: r => by
    rw [lnB_len, join_line]
    have : ((r.map (32 :: ·)).flatten).length = (r.map fun x => x.length + 1).sum := by
      induction r with
      | nil => rfl
      | cons a t ih => simp only [List.map_cons, List.flatten_cons, List.length_append, ih, List.sum_cons, List.length_cons]
    unfold cost
    rw [List.length_append, this, List.map_cons, List.sum_cons]; omega
theorem cost_le {K n : Nat} {W : List Bs} (h : ∀ x ∈ W, x.length ≤ K) (hn : W.length ≤ n) : cost W ≤ n * (K + 1) := by
  refine Nat.le_trans ?_ (Nat.mul_le_mul_right (K + 1) hn)
  clear hn
  unfold cost
  induction W with
  | nil => exact Nat.zero_le _
  | cons a t ih =>
    have h1 := h a List.mem_cons_self
    have h2 := ih (fun x hx => h x (List.mem_cons_of_mem _ hx))
    rw [List.map_cons, List.sum_cons, List.length_cons, Nat.add_mul]
    omega
theorem txt_le {K n : Nat} {L : List (List Bs)} (h : ∀ W ∈ L, (lnB W).length ≤ K) (hn : L.length ≤ n) : (txt L).length ≤ n * K := by
  refine Nat.le_trans ?_ (Nat.mul_le_mul_right K hn)
  clear hn
  induction L with
  | nil => exact Nat.zero_le _
  | cons a t ih =>
    have h1 := h a List.mem_cons_self
    have h2 := ih (fun x hx => h x (List.mem_cons_of_mem _ hx))
    show (lnB a ++ txt t).length ≤ _
    rw [List.length_append, List.length_cons, Nat.add_mul]
    omega
theorem txt_flat {α : Type} {K n : Nat} {f : α → List (List Bs)} {l : List α} (h : ∀ x ∈ l, (txt (f x)).length ≤ K) (hn : l.length ≤ n) : (txt (l.flatMap f)).length ≤ n * K := by
  refine Nat.le_trans ?_ (Nat.mul_le_mul_right K hn)
  clear hn
  induction l with
  | nil => exact Nat.zero_le _
  | cons a t ih =>
    have h1 := h a List.mem_cons_self
    have h2 := ih (fun x hx => h x (List.mem_cons_of_mem _ hx))
    rw [List.flatMap_cons, txt_app, List.length_append, List.length_cons, Nat.add_mul]
    omega
/-- What writing wants of a right program. -/
structure PP (p : Pr) : Prop where
  olen : p.obs.length ≤ 256
  flen : p.fns.length ≤ 64
  ob : ∀ o ∈ p.obs, (bytesL o.nm).length ≤ 63 ∧ o.bytes.length ≤ 16384 ∧ o.rels.length ≤ 4096
  fn : ∀ f ∈ p.fns, (bytesL f.nm).length ≤ 63 ∧ f.slots.length ≤ 256 ∧ f.code.length ≤ 16384 ∧ ∀ x ∈ f.code, PI x
theorem tag_len {s : ByteArray} (h : tagB s = true) : (bytesL s).length ≤ 63 := by
  unfold tagB at h
  split at h
  · rename_i hp
    simp only [Bool.and_eq_true, decide_eq_true_eq] at h
    have h2 := h.2.1
    unfold Lib.trimPrefix at h2
    rw [if_pos hp, List.length_drop] at h2
    have : ([35] : List UInt8).length = 1 := rfl
    omega
  · unfold lettersB at h
    simp only [Bool.and_eq_true, decide_eq_true_eq] at h
    exact h.2.1
theorem rels_len {j : Jg} {o : Ob} (hs : 1 ≤ o.size ∧ o.size ≤ 16384) : ∀ {fr : Int} {l : List Rel}, 0 ≤ fr → relsB j o fr l = true → l ≠ [] → fr + 4 * (l.length : Int) ≤ o.size
  | _, [], _, _, h => absurd rfl h
  | fr, r :: t, h0, h, _ => by
    have h' : relB j o fr r = true ∧ relsB j o (r.off + 4) t = true := by
      have : (relB j o fr r && relsB j o (r.off + 4) t) = true := h
      simpa using this
    obtain ⟨h1, h2⟩ := h'
    unfold relB at h1
    simp only [Bool.and_eq_true, Bool.not_eq_true', decide_eq_false_iff_not] at h1
    have ha := h1.2.1
    have hb := h1.2.2.2.1
    rw [IntKind.wrap_i64] at hb
    rw [List.length_cons]
    cases t with
    | nil => simp; omega
    | cons r2 t2 =>
      have := rels_len hs (by omega) h2 (by simp)
      rw [List.length_cons] at this ⊢
      omega
theorem fns_all {p : Pr} : ∀ {seen : List ByteArray} {l : List Fn}, fnsB p seen l = true → ∀ f ∈ l, funcB ⟨p, f⟩ = true
  | _, [], _, f, hf => by cases hf
  | seen, g :: t, h, f, hf => by
    rw [fnsB_cons] at h
    simp only [Bool.and_eq_true] at h
    rcases List.mem_cons.1 hf with rfl | hf
    · exact h.2.1
    · exact fns_all h.2.2 f hf
theorem check_PP {p : Pr} (h : checkB p = true) : PP p := by
  unfold checkB at h
  simp only [Bool.and_eq_true, Bool.not_eq_true', decide_eq_false_iff_not] at h
  obtain ⟨h1, -, h3, -, -, h6, h7⟩ := h
  have hf := fns_all h7
  have pa : ∀ g ∈ p.fns, g.pa ≤ 8 := fun g hg => by
    have := hf g hg
    unfold funcB at this
    simp only [Bool.and_eq_true, Bool.not_eq_true', decide_eq_false_iff_not] at this
    have := this.2.2.1
    omega
  refine ⟨by omega, by omega, fun o ho => ?_, fun f hm => ?_⟩
  · have := List.all_eq_true.1 h6 o ho
    unfold objB at this
    simp only [Bool.and_eq_true, Bool.not_eq_true', decide_eq_false_iff_not, beq_iff_eq] at this
    obtain ⟨g1, g2, g3, -, g5, g6⟩ := this
    refine ⟨tag_len g1, by omega, ?_⟩
    by_cases hn : o.rels = []
    · rw [hn]; exact Nat.zero_le _
    · have := rels_len ⟨by omega, by omega⟩ (Int.le_refl 0) g6 hn
      omega
  · have := hf f hm
    unfold funcB at this
    simp only [Bool.and_eq_true, Bool.not_eq_true', decide_eq_false_iff_not] at this
    obtain ⟨g1, -, -, -, -, g6, -, g8, -, -, g11⟩ := this
    exact ⟨tag_len g1, by omega, by omega, fun x hx => right_PI (List.all_eq_true.1 g11 x hx) pa⟩
theorem nameL_len (op : Int) : (bytesL (nameL op)).length ≤ 22 := by
  unfold nameL
  split
  · rw [List.getD_eq_getElem?_getD]
    cases hq : names19[(op - 1).toNat]? with
    | none => exact Nat.zero_le _
    | some b =>
      have hm := List.mem_of_getElem? hq
      have : names19.all (fun b => decide ((bytesL b).length ≤ 22)) = true := by kernel_rfl
      exact of_decide_eq_true (List.all_eq_true.1 this b hm)
  · exact Nat.zero_le _
theorem tmpT_len {n : Int} (h : in64 n) : (tmpT n).length ≤ 22 := Nat.succ_le_succ (itoa_len h)
theorem argT_len {a : Arg} (h : a.ok) : (argT a).length ≤ 22 := Nat.succ_le_succ (itoa_len (ok_in h))
theorem itoa_len22 {n : Int} (h : in64 n) : (Lib.itoa n).length ≤ 22 := Nat.le_succ_of_le (itoa_len h)
theorem ins_len {h : Nat → Option Obj} {x : Ins} (hx : InsIn h x) (hP : PI x) : (lnB (insW x)).length ≤ 254 := by
  have ha := argT_len (hx.ok x.a (by simp))
  have hb := argT_len (hx.ok x.b (by simp))
  have hd := tmpT_len hx.d
  have hn := itoa_len22 hx.n
  have ho := itoa_len22 hP.off
  have hw := itoa_len22 hP.width
  have hm := nameL_len x.bin
  have key : (∀ y ∈ insW x, y.length ≤ 22) ∧ (insW x).length ≤ 11 := by
    by_cases e8 : x.op = 8
    · have hl := (hP.args e8).2
      refine ⟨fun y hy => ?_, by simp [insW, e8]; omega⟩
      simp only [insW, e8] at hy
      simp at hy
      rcases hy with rfl | rfl | rfl | ⟨a, hma, rfl⟩
      · decide
      · split
        · decide
        · exact hd
      · exact hn
      · exact argT_len (hx.ok a (List.mem_append_right _ hma))
    · have := hP.op
      have hc : x.op = 1 ∨ x.op = 2 ∨ x.op = 3 ∨ x.op = 4 ∨ x.op = 5 ∨ x.op = 6 ∨ x.op = 7 ∨ x.op = 9 ∨ x.op = 10 ∨ x.op = 11 ∨ x.op = 12 ∨ x.op = 13 ∨ x.op = 14 := by omega
      rcases hc with e | e | e | e | e | e | e | e | e | e | e | e | e
      all_goals simp only [insW, e]
      all_goals (try cases x.signed)
      all_goals (try by_cases ek : x.a.k = 0)
      all_goals simp [*, k_mov, k_addr, k_glob, k_load, k_signed, k_store, k_copy, k_ret, k_jump, k_branch, k_put, k_get, k_exit]
  exact Nat.le_trans (lnB_cost _) (Nat.succ_le_succ (cost_le key.1 key.2))
theorem trimZ_len (l : List Int) : (trimZ l).length ≤ l.length := by
  unfold trimZ
  rw [List.length_reverse]
  exact Nat.le_trans (List.dropWhile_sublist _).length_le (by rw [List.length_reverse]; exact Nat.le_refl _)
theorem words_len {K n : Nat} {W : List Bs} (h : ∀ x ∈ W, x.length ≤ K) (hn : W.length ≤ n) : (lnB W).length ≤ n * (K + 1) + 1 := Nat.le_trans (lnB_cost _) (Nat.succ_le_succ (cost_le h hn))
theorem txt_len {h : Nat → Option Obj} {p : Pr} (hp : PrIn h p) (hP : PP p) : (txt (prW p)).length ≤ 536870912 := by
  have h1 : (txt (p.obs.flatMap obW)).length ≤ 256 * 446724 := txt_flat (fun o ho => by
    obtain ⟨g1, g2, g3⟩ := hP.ob o ho
    have hI := hp.ob o ho
    have q0 : (txt [ob0 o]).length ≤ 1 * 257 := txt_le (fun W hW => by
      rw [List.mem_singleton] at hW; subst hW
      refine words_len (K := 63) (n := 4) (fun y hy => ?_) (Nat.le_refl _)
      simp only [ob0, List.mem_cons, List.not_mem_nil, or_false] at hy
      rcases hy with rfl | rfl | rfl | rfl
      · decide
      · exact g1
      · exact Nat.le_trans (itoa_len hI.size) (by decide)
      · exact Nat.le_trans (itoa_len hI.align) (by decide)) (Nat.le_refl _)
    have qd : (txt (obD o)).length ≤ 1 * 65539 := by
      unfold obD
      split
      · exact Nat.zero_le _
      · refine txt_le (fun W hW => ?_) (Nat.le_refl _)
        rw [List.mem_singleton] at hW; subst hW
        refine words_len (K := 32768) (n := 2) (fun y hy => ?_) (Nat.le_refl _)
        simp only [List.mem_cons, List.not_mem_nil, or_false] at hy
        rcases hy with rfl | rfl
        · decide
        · unfold hexB; rw [hex2_len]; have := trimZ_len o.bytes; omega
    have qr : (txt (o.rels.map relW)).length ≤ 4096 * 93 := txt_le (fun W hW => by
      obtain ⟨r, hr, rfl⟩ := List.mem_map.1 hW
      obtain ⟨r1, r2, r3⟩ := hI.rs r hr
      refine words_len (K := 22) (n := 4) (fun y hy => ?_) (Nat.le_refl _)
      simp only [relW, List.mem_cons, List.not_mem_nil, or_false] at hy
      rcases hy with rfl | rfl | rfl | rfl
      · decide
      · exact itoa_len22 r1
      · exact itoa_len22 r2
      · exact itoa_len22 r3) (by rw [List.length_map]; exact g3)
    unfold obW
    rw [txt_app, txt_app, List.length_append, List.length_append]
    omega) hP.olen
  have h2 : (txt (p.fns.flatMap fnW)).length ≤ 64 * 4179777 := txt_flat (fun f hf => by
    obtain ⟨g1, g2, g3, g4⟩ := hP.fn f hf
    have hI := hp.fn f hf
    have q0 : (txt [fn0W f]).length ≤ 1 * 321 := txt_le (fun W hW => by
      rw [List.mem_singleton] at hW; subst hW
      refine words_len (K := 63) (n := 5) (fun y hy => ?_) (by unfold fn0W; split <;> simp)
      unfold fn0W at hy
      simp only [List.mem_append, List.mem_cons, List.not_mem_nil, or_false] at hy
      rcases hy with (rfl | rfl | rfl | rfl) | hy
      · decide
      · exact g1
      · exact Nat.le_trans (itoa_len hI.pa) (by decide)
      · exact Nat.le_trans (itoa_len hI.te) (by decide)
      · split at hy
        · rw [List.mem_singleton] at hy; subst hy; decide
        · cases hy) (Nat.le_refl _)
    have qs : (txt (f.slots.map slotW)).length ≤ 256 * 70 := txt_le (fun W hW => by
      obtain ⟨s, hs, rfl⟩ := List.mem_map.1 hW
      obtain ⟨r1, r2⟩ := hI.ss s hs
      refine words_len (K := 22) (n := 3) (fun y hy => ?_) (Nat.le_refl _)
      simp only [slotW, List.mem_cons, List.not_mem_nil, or_false] at hy
      rcases hy with rfl | rfl | rfl
      · decide
      · exact itoa_len22 r1
      · exact itoa_len22 r2) (by rw [List.length_map]; exact g2)
    have qc : (txt (f.code.map insW)).length ≤ 16384 * 254 := txt_le (fun W hW => by
      obtain ⟨x, hx, rfl⟩ := List.mem_map.1 hW
      exact ins_len (hI.code.all x hx) (g4 x hx)) (by rw [List.length_map]; exact g3)
    unfold fnW
    rw [txt_app, txt_app, List.length_append, List.length_append]
    omega) hP.flen
  have h3 : (txt [mainW p]).length ≤ 1 * 47 := txt_le (fun W hW => by
    rw [List.mem_singleton] at hW; subst hW
    refine words_len (K := 22) (n := 2) (fun y hy => ?_) (Nat.le_refl _)
    simp only [mainW, List.mem_cons, List.not_mem_nil, or_false] at hy
    rcases hy with rfl | rfl
    · decide
    · exact itoa_len22 hp.main) (Nat.le_refl _)
  unfold prW
  rw [txt_app, txt_app, List.length_append, List.length_append]
  omega
end Go.Proofs.YtpohhfggmaihpaaGreatDoor
