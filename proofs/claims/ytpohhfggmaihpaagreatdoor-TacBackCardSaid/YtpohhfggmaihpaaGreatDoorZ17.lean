/-
  Rounds that read data, relocs, slots.
  Rounds that read an instruction.
  A deferred call that asks for a panic; two results that lie in cells.
  strings.Lines, walked: a text line by line.
  tac's read: a round for each line.
  tac's read, walked.
  The document's power, temp, arg, none, same, digit, letter.
  The document's Word and Tag.
  The document's Tag.
  The document's shape.
  The document's Same, Names, Name, call.
  The document's Right.
-/
import Derived.Test.YtpohhfggmaihpaaGreatDoorZ16
import Derived.Test.YtpohhfggmaihpaaGreatDoorZ15
import Derived.RecoverIn
import Derived.Test.YtpohhfggmaihpaaGreatDoorZ11

/- Rounds that read data, relocs, slots. -/
namespace Go.Proofs.YtpohhfggmaihpaaGreatDoor
open Go.Wk
set_option linter.unusedVariables false
set_option linter.unusedSimpArgs false
attribute [local irreducible] G GC GQ GA GS Exit.then Exit.inBlock

set_option maxHeartbeats 16000000 in
theorem round_da (bs : List Int) (l : Nat) (r : Obj) (b2 : Nat) (w : World) (A : HL) (pr : Pr) (Ao Af Bb Br Bs Bc E : HL) (Q : Post) (B : Bd pr Ao Af Bb Br Bs Bc E) (hm : M0 (Oldh (XR l w A))) (hQ : NoP Q) (hZ : Sml pr) (hs : ∃ pre o, pr.obs = pre ++ [o]) (hbb : ∀ b ∈ bs, 0 ≤ b ∧ b ≤ 255) (hbl' : ∀ pre o, pr.obs = pre ++ [o] → bs.length ≤ o.bytes.length ∧ o.bytes.length ≤ 1099511627776) (hok : okW (Ln.words (Ln.da bs))) (hlen : (Lib.join (Ln.words (Ln.da bs)) [32]).length ≤ 1000000000) (kk : Left (Ln.da bs) l r b2 w A pr Q) : GC (XR l w A) bodyC Q [(2, .pointer (some ⟨b2, 0, none⟩)), (4, .string (mkB (lnB ((Ln.da bs).words))))] (FF l r b2 pr Ao Af Bb Br Bs Bc E) := by
  refine gc_block ?_
  refine gc_seq ?_
  repeat' (first | refine g_pv rfl rfl ?_ | refine gc_region ?_)
  refine g_call rfl (Cl.of Tryz.func68 rfl rfl) rfl rfl (fun w' hE => trimS_sp (k_data :: [bs.flatMap hex2]) w' (Nat.le_trans hlen (by decide))) rfl (fun _ _ => ?_)
  refine g_call rfl (Cl.of Tryz.func67 rfl rfl) rfl rfl (fun w' hE => splitS_sp (k_data) ([bs.flatMap hex2]) w' hok (hm.le (old_le hE)) hlen) rfl (fun g _ => ?_)
  repeat' (fail)
  refine g_p (p_build rfl rfl rfl rfl) rfl ?_
  repeat' (first | refine g_pv rfl rfl ?_ | refine g_nil ?_ | refine gq_then ?_ | refine g_box rfl rfl (fun _ => ?_))
  rename_i b5
  have hR0 : RD b5 (k_data :: [bs.flatMap hex2]) _ := RD.mk0 b5 g (k_data :: [bs.flatMap hex2]) _ rfl
  refine gc_heap (R' := [[(b5, .cells ⟨[.slice (some ⟨g, 0, none⟩) _ _]⟩ 127 (0, 0))], [(g, .cells ⟨(k_data :: [bs.flatMap hex2]).flatMap strW⟩ 9 (0, 0))]] ++ (FF l r b2 pr Ao Af Bb Br Bs Bc E)) (fun w H => H) ?_
  generalize [[(b5, Obj.cells ⟨[.slice (some ⟨g, 0, none⟩) _ _]⟩ 127 (0, 0))], [(g, Obj.cells ⟨(k_data :: [bs.flatMap hex2]).flatMap strW⟩ 9 (0, 0))]] = R0 at hR0 ⊢
  refine gc_seq ?_
  refine gc_seq ?_
  repeat' (first | refine g_pv rfl rfl ?_ | refine gc_region ?_)
  refine g_call1 (A := R0) (F := FF l r b2 pr Ao Af Bb Br Bs Bc E) rfl rfl (Cl.of Tryz.func69 rfl rfl) rfl rfl (fun w' hE' => wnext_sp b5 _ _ R0 w' hR0 (hp_own hE')) rfl (fun R1 hR1 => ?_)
  refine g_heap (R' := (FF l r b2 pr Ao Af Bb Br Bs Bc E) ++ R1) (fun w H => hp_permL H List.perm_append_comm) ?_
  repeat' (first | refine g_pv rfl rfl ?_ | refine g_nil ?_ | refine gq_then ?_)
  refine gc_seq ?_
  repeat' (first | refine g_pv rfl rfl ?_ | refine g_nil ?_ | refine gq_then ?_ | refine gc_region ?_ | refine gc_block ?_)
  repeat' (first | refine gc_seq ?_ | refine gc_region ?_)
  refine g_p (p_eqT rfl rfl rfl) rfl ?_
  refine g_eq 64 (u' := .bool false) rfl (congrArg Value.bool ((eqT_mk (k_data) k_object).trans (by decide))) ?_
  repeat' (first | refine g_pv rfl rfl ?_ | refine g_nil ?_ | refine gq_then ?_ | refine gc_seq ?_ | refine gc_region ?_ | refine gc_cond_f rfl ?_)
  refine g_p (p_eqT rfl rfl rfl) rfl ?_
  refine g_eq 93 (u' := .bool true) rfl (congrArg Value.bool ((eqT_mk (k_data) k_data).trans (by decide))) ?_
  repeat' (first | refine g_pv rfl rfl ?_ | refine g_ld 1 rfl rfl rfl rfl rfl rfl ?_ | refine g_nil ?_ | refine gq_then ?_ | refine gc_seq ?_ | refine gc_region ?_ | refine gc_cond_t rfl ?_)
  obtain ⟨obs, oA, oC, fns, fA, fC, mn⟩ := pr
  obtain ⟨pre, o, hpo⟩ := hs
  dsimp only at hpo
  subst hpo
  obtain ⟨g0, cap0, rst0, hv0, -, -, -, -⟩ := Own.pos B.o (by simp)
  obtain rfl : oA = some ⟨g0, 0, none⟩ := (Value.slice.inj hv0).1
  have hbl := (hbl' pre o rfl).1
  have hbs := (hbl' pre o rfl).2
  have hpl : (pre ++ [o]).length = pre.length + 1 := by simp
  have hpb : (pre ++ [o]).length ≤ 2000000 := hZ.1
  have hoi : (pre ++ [o])[pre.length]? = some o := by simp
  repeat' (fail)
  refine g_eq 97 (u' := .bool true) rfl (by simp) ?_
  refine g_call rfl (Cl.of Tryz.func71 rfl rfl) rfl rfl (fun w' hE => must_sp w') rfl (fun _ _ => ?_)
  repeat' (first | refine g_nil ?_ | refine gq_then ?_)
  refine gc_heap (R' := [[(b2, .cells ⟨(⟨pre ++ [o], some ⟨g0, 0, none⟩, oC, fns, fA, fC, mn⟩ : Pr).cells⟩ 25 (0, 0))], Ao, [(l, r)], Af, Bb, Br, Bs, Bc, E] ++ R1) (fun w H => hp_cnt [] H (fun a => by simp only [FF, List.cons_append, List.nil_append, List.flatten_append, List.flatten_cons, List.flatten_nil, List.count_append, List.count_cons, List.count_nil, List.append_nil]; omega)) ?_
  refine gc_draw [[(b2, .cells ⟨(⟨pre ++ [o], some ⟨g0, 0, none⟩, oC, fns, fA, fC, mn⟩ : Pr).cells⟩ 25 (0, 0))], Ao] ([[(l, r)], Af, Bb, Br, Bs, Bc, E] ++ R1) rfl (List.Perm.of_eq rfl) ?_
  (refine aP 0 rfl rfl ?_); (refine aP 2 rfl rfl ?_); (refine aP 4 rfl rfl ?_); (refine aL 3 0 rfl wanted_none rfl rfl rfl rfl rfl ?_); (refine aL 5 0 rfl wanted_none rfl rfl rfl rfl rfl ?_); (refine aP 6 rfl rfl ?_); (refine aP 7 rfl rfl ?_)
  refine ga_eq 106 (u' := .int .i64 (pre.length : Int)) rfl (by rw [hpl, IntKind.wrap_i64]; congr 1; omega) ?_
  refine aQ 8 rfl (p_ix rfl rfl rfl rfl (Int.natCast_nonneg pre.length) (by show ((pre.length : Nat) : Int) < (((pre ++ [o]).length : Nat) : Int); omega)) ?_
  (refine aP 9 rfl rfl ?_); (refine aP 10 rfl rfl ?_)
  refine ga_ldF 11 (f := Ob.cells) (sz := 5) (j := pre.length) (off := 3) (q := o) (by repeat first | exact NoP.sp | apply NoP.then | apply NoP.block | assumption) rfl wanted_none rfl rfl (still_rd (R0 := [[(b2, .cells ⟨(⟨pre ++ [o], some ⟨g0, 0, none⟩, oC, fns, fA, fC, mn⟩ : Pr).cells⟩ 25 (0, 0))], Ao]) 1 rfl (fun _ => rfl) B.o rfl) rfl hoi rfl rfl rfl (by kernel_rfl) (by kernel_rfl) (by kernel_rfl) ?_
  refine aO 1 rfl (fun K hK => ?_)
  refine g_heap (R' := R1 ++ [[(b2, .cells ⟨(⟨pre ++ [o], some ⟨g0, 0, none⟩, oC, fns, fA, fC, mn⟩ : Pr).cells⟩ 25 (0, 0))], Ao, [(l, r)], Af, Bb, Br, Bs, Bc, E]) (fun w H => hp_permL H List.perm_append_comm) ?_
  refine g_call1 (A := R1) (F := [[(b2, .cells ⟨(⟨pre ++ [o], some ⟨g0, 0, none⟩, oC, fns, fA, fC, mn⟩ : Pr).cells⟩ 25 (0, 0))], Ao, [(l, r)], Af, Bb, Br, Bs, Bc, E]) rfl rfl (Cl.of Tryz.func69 rfl rfl) rfl rfl (fun w' hE' => wnext_sp b5 _ _ R1 w' hR1 (hp_own hE')) rfl (fun R2 hR2 => ?_)
  refine g_heap (R' := [[(b2, .cells ⟨(⟨pre ++ [o], some ⟨g0, 0, none⟩, oC, fns, fA, fC, mn⟩ : Pr).cells⟩ 25 (0, 0))], Ao, [(l, r)], Af, Bb, Br, Bs, Bc, E] ++ R2) (fun w H => hp_permL H List.perm_append_comm) ?_
  refine g_nil ?_
  refine hK _ _ ⟨List.drop 2 [[(b2, .cells ⟨(⟨pre ++ [o], some ⟨g0, 0, none⟩, oC, fns, fA, fC, mn⟩ : Pr).cells⟩ 25 (0, 0))], Ao, [(l, r)], Af, Bb, Br, Bs, Bc, E] ++ R2, List.Perm.of_eq rfl⟩ ?_
  refine aO 12 rfl (fun K hK => ?_)
  refine g_heap (R' := Bb :: ([[(b2, .cells ⟨(⟨pre ++ [o], some ⟨g0, 0, none⟩, oC, fns, fA, fC, mn⟩ : Pr).cells⟩ 25 (0, 0))], Ao, [(l, r)], Af, Br, Bs, Bc, E] ++ R2)) (fun w H => hp_cnt [] H (fun a => by simp only [FF, List.cons_append, List.nil_append, List.flatten_append, List.flatten_cons, List.flatten_nil, List.count_append, List.count_cons, List.count_nil, List.append_nil]; omega)) ?_
  refine g_callA (A := Bb) (F := [[(b2, .cells ⟨(⟨pre ++ [o], some ⟨g0, 0, none⟩, oC, fns, fA, fC, mn⟩ : Pr).cells⟩ 25 (0, 0))], Ao, [(l, r)], Af, Br, Bs, Bc, E] ++ R2) rfl rfl (Cl.of Tryz.func72 rfl rfl) rfl rfl (fun w' hE' => unhex_sp bs o.bytes _ Bb w' hbb hbl hbs (B.oL pre o rfl).1 (by simpa using hp_own (A := [Bb]) hE')) rfl (fun Bb' hB' => ?_)
  refine g_heap (R' := [(b2, .cells ⟨(⟨pre ++ [o], some ⟨g0, 0, none⟩, oC, fns, fA, fC, mn⟩ : Pr).cells⟩ 25 (0, 0))] :: Ao :: Bb' :: ([[(l, r)], Af, Br, Bs, Bc, E] ++ R2)) (fun w H => hp_cnt [] H (fun a => by simp only [FF, List.cons_append, List.nil_append, List.flatten_append, List.flatten_cons, List.flatten_nil, List.count_append, List.count_cons, List.count_nil, List.append_nil]; omega)) ?_
  refine g_nil ?_
  refine hK _ _ ⟨_, List.Perm.of_eq rfl⟩ ?_
  refine ga_nil (by kernel_rfl) ?_
  have hRz := hR2
  obtain ⟨ad9, c9, g9, cs9, rfl, -, -⟩ := hRz
  repeat' (first | refine g_pv rfl rfl ?_ | refine gq_then ?_ | refine gc_region ?_ | refine gq_block ?_)
  refine g_ld 9 rfl rfl rfl rfl rfl rfl ?_
  repeat' (refine g_pv rfl rfl ?_)
  refine g_call rfl (Cl.of Tryz.func71 rfl rfl) rfl rfl (fun w' hE => must_sp w') rfl (fun _ _ => ?_)
  repeat' (first | refine g_nil ?_ | refine gq_block ?_)
  exact gq_sub (L' := []) trivial (gq_hp (R' := FF l r b2 (⟨pre ++ [{ o with bytes := bs ++ o.bytes.drop bs.length }], some ⟨g0, 0, none⟩, oC, fns, fA, fC, mn⟩ : Pr) Ao Af Bb' Br Bs Bc E) (fun w' H => ff_da (by rw [da_cells hbl]; exact (hp_fst (S := [[(b5, _)], [(g9, _)]]) H))) (kk (⟨pre ++ [{ o with bytes := bs ++ o.bytes.drop bs.length }], some ⟨g0, 0, none⟩, oC, fns, fA, fC, mn⟩ : Pr) Ao Af Bb' Br Bs Bc E (B.modO (da_own B.o hbl) (by rw [da_len hbl]; exact hB') (B.oL pre o rfl).2) (by simp [Pr.er, Ln.app, Ob.er, modL_snoc])))
set_option maxHeartbeats 16000000 in
theorem round_re (rl : Rel) (l : Nat) (r : Obj) (b2 : Nat) (w : World) (A : HL) (pr : Pr) (Ao Af Bb Br Bs Bc E : HL) (Q : Post) (B : Bd pr Ao Af Bb Br Bs Bc E) (hm : M0 (Oldh (XR l w A))) (hQ : NoP Q) (hZ : Sml pr) (hs : ∃ pre o, pr.obs = pre ++ [o]) (h1 : sm rl.off) (h2 : sm rl.gl) (h3 : sm rl.add) (hok : okW (Ln.words (Ln.re rl))) (hlen : (Lib.join (Ln.words (Ln.re rl)) [32]).length ≤ 1000000000) (kk : Left (Ln.re rl) l r b2 w A pr Q) : GC (XR l w A) bodyC Q [(2, .pointer (some ⟨b2, 0, none⟩)), (4, .string (mkB (lnB ((Ln.re rl).words))))] (FF l r b2 pr Ao Af Bb Br Bs Bc E) := by
  refine gc_block ?_
  refine gc_seq ?_
  repeat' (first | refine g_pv rfl rfl ?_ | refine gc_region ?_)
  refine g_call rfl (Cl.of Tryz.func68 rfl rfl) rfl rfl (fun w' hE => trimS_sp (k_reloc :: Lib.itoa rl.off :: Lib.itoa rl.gl :: [Lib.itoa rl.add]) w' (Nat.le_trans hlen (by decide))) rfl (fun _ _ => ?_)
  refine g_call rfl (Cl.of Tryz.func67 rfl rfl) rfl rfl (fun w' hE => splitS_sp (k_reloc) (Lib.itoa rl.off :: Lib.itoa rl.gl :: [Lib.itoa rl.add]) w' hok (hm.le (old_le hE)) hlen) rfl (fun g _ => ?_)
  repeat' (fail)
  refine g_p (p_build rfl rfl rfl rfl) rfl ?_
  repeat' (first | refine g_pv rfl rfl ?_ | refine g_nil ?_ | refine gq_then ?_ | refine g_box rfl rfl (fun _ => ?_))
  rename_i b5
  have hR0 : RD b5 (k_reloc :: Lib.itoa rl.off :: Lib.itoa rl.gl :: [Lib.itoa rl.add]) _ := RD.mk0 b5 g (k_reloc :: Lib.itoa rl.off :: Lib.itoa rl.gl :: [Lib.itoa rl.add]) _ rfl
  refine gc_heap (R' := [[(b5, .cells ⟨[.slice (some ⟨g, 0, none⟩) _ _]⟩ 127 (0, 0))], [(g, .cells ⟨(k_reloc :: Lib.itoa rl.off :: Lib.itoa rl.gl :: [Lib.itoa rl.add]).flatMap strW⟩ 9 (0, 0))]] ++ (FF l r b2 pr Ao Af Bb Br Bs Bc E)) (fun w H => H) ?_
  generalize [[(b5, Obj.cells ⟨[.slice (some ⟨g, 0, none⟩) _ _]⟩ 127 (0, 0))], [(g, Obj.cells ⟨(k_reloc :: Lib.itoa rl.off :: Lib.itoa rl.gl :: [Lib.itoa rl.add]).flatMap strW⟩ 9 (0, 0))]] = R0 at hR0 ⊢
  refine gc_seq ?_
  refine gc_seq ?_
  repeat' (first | refine g_pv rfl rfl ?_ | refine gc_region ?_)
  refine g_call1 (A := R0) (F := FF l r b2 pr Ao Af Bb Br Bs Bc E) rfl rfl (Cl.of Tryz.func69 rfl rfl) rfl rfl (fun w' hE' => wnext_sp b5 _ _ R0 w' hR0 (hp_own hE')) rfl (fun R1 hR1 => ?_)
  refine g_heap (R' := (FF l r b2 pr Ao Af Bb Br Bs Bc E) ++ R1) (fun w H => hp_permL H List.perm_append_comm) ?_
  repeat' (first | refine g_pv rfl rfl ?_ | refine g_nil ?_ | refine gq_then ?_)
  refine gc_seq ?_
  repeat' (first | refine g_pv rfl rfl ?_ | refine g_nil ?_ | refine gq_then ?_ | refine gc_region ?_ | refine gc_block ?_)
  repeat' (first | refine gc_seq ?_ | refine gc_region ?_)
  refine g_p (p_eqT rfl rfl rfl) rfl ?_
  refine g_eq 64 (u' := .bool false) rfl (congrArg Value.bool ((eqT_mk (k_reloc) k_object).trans (by decide))) ?_
  repeat' (first | refine g_pv rfl rfl ?_ | refine g_nil ?_ | refine gq_then ?_ | refine gc_seq ?_ | refine gc_region ?_ | refine gc_cond_f rfl ?_)
  refine g_p (p_eqT rfl rfl rfl) rfl ?_
  refine g_eq 93 (u' := .bool false) rfl (congrArg Value.bool ((eqT_mk (k_reloc) k_data).trans (by decide))) ?_
  repeat' (first | refine g_pv rfl rfl ?_ | refine g_nil ?_ | refine gq_then ?_ | refine gc_seq ?_ | refine gc_region ?_ | refine gc_cond_f rfl ?_)
  refine g_p (p_eqT rfl rfl rfl) rfl ?_
  refine g_eq 113 (u' := .bool true) rfl (congrArg Value.bool ((eqT_mk (k_reloc) k_reloc).trans (by decide))) ?_
  repeat' (first | refine g_pv rfl rfl ?_ | refine g_ld 1 rfl rfl rfl rfl rfl rfl ?_ | refine g_nil ?_ | refine gq_then ?_ | refine gc_seq ?_ | refine gc_region ?_ | refine gc_cond_t rfl ?_)
  obtain ⟨obs, oA, oC, fns, fA, fC, mn⟩ := pr
  obtain ⟨pre, o, hpo⟩ := hs
  dsimp only at hpo
  subst hpo
  obtain ⟨g0, cap0, rst0, hv0, -, -, -, -⟩ := Own.pos B.o (by simp)
  obtain rfl : oA = some ⟨g0, 0, none⟩ := (Value.slice.inj hv0).1
  have hpl : (pre ++ [o]).length = pre.length + 1 := by simp
  have hpb : (pre ++ [o]).length ≤ 2000000 := hZ.1
  have hoi : (pre ++ [o])[pre.length]? = some o := by simp
  have hset : ∀ o' : Ob, (pre ++ [o]).set pre.length o' = pre ++ [o'] := fun o' => by simp
  have hrl : o.rels.length ≤ 2000000 := hZ.2.2.1 o (by simp)
  repeat' (fail)
  refine g_eq 117 (u' := .bool true) rfl (by simp) ?_
  refine g_call rfl (Cl.of Tryz.func71 rfl rfl) rfl rfl (fun w' hE => must_sp w') rfl (fun _ _ => ?_)
  repeat' (first | refine g_pv rfl rfl ?_ | refine g_ld 1 rfl rfl rfl rfl rfl rfl ?_ | refine g_nil ?_ | refine gq_then ?_ | refine gc_seq ?_ | refine gc_region ?_)
  repeat' (fail)
  refine g_eq 124 (u' := .int .i64 (pre.length : Int)) rfl (by rw [hpl, IntKind.wrap_i64]; congr 1; omega) ?_
  refine g_p (p_ix rfl rfl rfl rfl (Int.natCast_nonneg pre.length) (by show ((pre.length : Nat) : Int) < (((pre ++ [o]).length : Nat) : Int); omega)) rfl ?_
  repeat' (first | refine g_pv rfl rfl ?_ | refine g_nil ?_ | refine gq_then ?_)
  refine gc_heap (R' := [Ao, [(l, r)], [(b2, .cells ⟨(⟨pre ++ [o], some ⟨g0, 0, none⟩, oC, fns, fA, fC, mn⟩ : Pr).cells⟩ 25 (0, 0))], Af, Bb, Br, Bs, Bc, E] ++ R1) (fun w H => hp_cnt [] H (fun a => by simp only [FF, List.cons_append, List.nil_append, List.flatten_append, List.flatten_cons, List.flatten_nil, List.count_append, List.count_cons, List.count_nil, List.append_nil]; omega)) ?_
  refine gc_draw [Ao] ([[(l, r)], [(b2, .cells ⟨(⟨pre ++ [o], some ⟨g0, 0, none⟩, oC, fns, fA, fC, mn⟩ : Pr).cells⟩ 25 (0, 0))], Af, Bb, Br, Bs, Bc, E] ++ R1) rfl (List.Perm.of_eq rfl) ?_
  (refine aP 0 rfl rfl ?_); (refine aP 1 rfl rfl ?_); (refine aP 2 rfl rfl ?_); (refine aP 3 rfl rfl ?_); (refine aP 5 rfl rfl ?_); (refine aP 7 rfl rfl ?_); (refine aP 9 rfl rfl ?_)
  refine ga_ldF 4 (f := Ob.cells) (sz := 5) (j := pre.length) (off := 4) (q := o) (by repeat first | exact NoP.sp | apply NoP.then | apply NoP.block | assumption) rfl wanted_none rfl rfl (still_rd (R0 := [Ao]) 0 rfl (fun _ => rfl) B.o rfl) rfl hoi rfl rfl rfl (by kernel_rfl) (by kernel_rfl) (by kernel_rfl) ?_
  refine aO 6 rfl (fun K hK => ?_)
  refine g_heap (R' := R1 ++ [Ao, [(l, r)], [(b2, .cells ⟨(⟨pre ++ [o], some ⟨g0, 0, none⟩, oC, fns, fA, fC, mn⟩ : Pr).cells⟩ 25 (0, 0))], Af, Bb, Br, Bs, Bc, E]) (fun w H => hp_permL H List.perm_append_comm) ?_
  refine g_call1 (A := R1) (F := [Ao, [(l, r)], [(b2, .cells ⟨(⟨pre ++ [o], some ⟨g0, 0, none⟩, oC, fns, fA, fC, mn⟩ : Pr).cells⟩ 25 (0, 0))], Af, Bb, Br, Bs, Bc, E]) rfl rfl (Cl.of Tryz.func70 rfl rfl) rfl rfl (fun w' hE' => num_sp b5 rl.off _ R1 w' h1 hR1 (hp_own hE')) rfl (fun R2 hR2 => ?_)
  refine g_heap (R' := [Ao, [(l, r)], [(b2, .cells ⟨(⟨pre ++ [o], some ⟨g0, 0, none⟩, oC, fns, fA, fC, mn⟩ : Pr).cells⟩ 25 (0, 0))], Af, Bb, Br, Bs, Bc, E] ++ R2) (fun w H => hp_permL H List.perm_append_comm) ?_
  refine g_nil ?_
  refine hK _ _ ⟨List.drop 1 [Ao, [(l, r)], [(b2, .cells ⟨(⟨pre ++ [o], some ⟨g0, 0, none⟩, oC, fns, fA, fC, mn⟩ : Pr).cells⟩ 25 (0, 0))], Af, Bb, Br, Bs, Bc, E] ++ R2, List.Perm.of_eq rfl⟩ ?_
  refine aO 8 rfl (fun K hK => ?_)
  refine g_heap (R' := R2 ++ [Ao, [(l, r)], [(b2, .cells ⟨(⟨pre ++ [o], some ⟨g0, 0, none⟩, oC, fns, fA, fC, mn⟩ : Pr).cells⟩ 25 (0, 0))], Af, Bb, Br, Bs, Bc, E]) (fun w H => hp_permL H List.perm_append_comm) ?_
  refine g_call1 (A := R2) (F := [Ao, [(l, r)], [(b2, .cells ⟨(⟨pre ++ [o], some ⟨g0, 0, none⟩, oC, fns, fA, fC, mn⟩ : Pr).cells⟩ 25 (0, 0))], Af, Bb, Br, Bs, Bc, E]) rfl rfl (Cl.of Tryz.func70 rfl rfl) rfl rfl (fun w' hE' => num_sp b5 rl.gl _ R2 w' h2 hR2 (hp_own hE')) rfl (fun R3 hR3 => ?_)
  refine g_heap (R' := [Ao, [(l, r)], [(b2, .cells ⟨(⟨pre ++ [o], some ⟨g0, 0, none⟩, oC, fns, fA, fC, mn⟩ : Pr).cells⟩ 25 (0, 0))], Af, Bb, Br, Bs, Bc, E] ++ R3) (fun w H => hp_permL H List.perm_append_comm) ?_
  refine g_nil ?_
  refine hK _ _ ⟨List.drop 1 [Ao, [(l, r)], [(b2, .cells ⟨(⟨pre ++ [o], some ⟨g0, 0, none⟩, oC, fns, fA, fC, mn⟩ : Pr).cells⟩ 25 (0, 0))], Af, Bb, Br, Bs, Bc, E] ++ R3, List.Perm.of_eq rfl⟩ ?_
  refine aO 10 rfl (fun K hK => ?_)
  refine g_heap (R' := R3 ++ [Ao, [(l, r)], [(b2, .cells ⟨(⟨pre ++ [o], some ⟨g0, 0, none⟩, oC, fns, fA, fC, mn⟩ : Pr).cells⟩ 25 (0, 0))], Af, Bb, Br, Bs, Bc, E]) (fun w H => hp_permL H List.perm_append_comm) ?_
  refine g_call1 (A := R3) (F := [Ao, [(l, r)], [(b2, .cells ⟨(⟨pre ++ [o], some ⟨g0, 0, none⟩, oC, fns, fA, fC, mn⟩ : Pr).cells⟩ 25 (0, 0))], Af, Bb, Br, Bs, Bc, E]) rfl rfl (Cl.of Tryz.func70 rfl rfl) rfl rfl (fun w' hE' => num_sp b5 rl.add _ R3 w' h3 hR3 (hp_own hE')) rfl (fun R4 hR4 => ?_)
  refine g_heap (R' := [Ao, [(l, r)], [(b2, .cells ⟨(⟨pre ++ [o], some ⟨g0, 0, none⟩, oC, fns, fA, fC, mn⟩ : Pr).cells⟩ 25 (0, 0))], Af, Bb, Br, Bs, Bc, E] ++ R4) (fun w H => hp_permL H List.perm_append_comm) ?_
  refine g_nil ?_
  refine hK _ _ ⟨List.drop 1 [Ao, [(l, r)], [(b2, .cells ⟨(⟨pre ++ [o], some ⟨g0, 0, none⟩, oC, fns, fA, fC, mn⟩ : Pr).cells⟩ 25 (0, 0))], Af, Bb, Br, Bs, Bc, E] ++ R4, List.Perm.of_eq rfl⟩ ?_
  refine aQ 11 rfl (p_build rfl rfl rfl rfl) ?_
  refine aO 12 rfl (fun K hK => ?_)
  refine g_litL rfl rfl rfl rfl rfl rfl rfl rfl rfl rfl (fun g5 => ?_)
  refine g_nil ?_
  refine hK _ _ ⟨_ :: List.drop 1 ([Ao, [(l, r)], [(b2, .cells ⟨(⟨pre ++ [o], some ⟨g0, 0, none⟩, oC, fns, fA, fC, mn⟩ : Pr).cells⟩ 25 (0, 0))], Af, Bb, Br, Bs, Bc, E] ++ R4), List.perm_middle (l₁ := [Ao])⟩ ?_
  refine aO 13 rfl (fun K hK => ?_)
  refine g_appL 6 (f := Rel.cells) (m := [rl]) rfl rfl rfl rfl rfl rfl rfl (B.oL pre o rfl).2 (fun _ => rfl) (fun w' H => one_rd (hp_in H 0 rfl g5 _ List.mem_cons_self) rfl) (fun _ => rfl) (by unfold maxLen; simp only [List.length_singleton]; omega) (Nat.le_trans (Nat.mul_le_mul_right _ (Nat.add_le_add_right hrl 1)) (by decide)) rfl (fun v2 A2 ho2 => ?_)
  obtain ⟨ad2, c2, rfl, -⟩ := Own.shape ho2
  refine g_nil ?_
  refine hK _ _ ⟨_ :: ([[(l, r)], [(b2, .cells ⟨(⟨pre ++ [o], some ⟨g0, 0, none⟩, oC, fns, fA, fC, mn⟩ : Pr).cells⟩ 25 (0, 0))], Af, Bb, A2, Bs, Bc, E] ++ R4), List.perm_middle (l₁ := [Ao])⟩ ?_
  (refine aP 14 rfl rfl ?_); (refine aP 15 rfl rfl ?_)
  refine ga_one (i := 16) (by kernel_rfl) (gs_last rfl (by kernel_rfl) (by kernel_rfl) (fun K hK => ?_))
  refine g_stF 1 (f := Ob.cells) (q := o) ({ o with rels := o.rels ++ [rl], rA := ad2, rC := c2 }) (i := pre.length) (off := 4) rfl rfl rfl rfl B.o (fun _ => rfl) (by simp) hoi rfl (by decide) rfl rfl (fun A3 ho3 => ?_)
  rw [hset] at ho3
  refine g_nil ?_
  refine hK _ _ ?_
  have hRz := hR4
  obtain ⟨ad9, c9, g9, cs9, rfl, -, -⟩ := hRz
  repeat' (first | refine g_pv rfl rfl ?_ | refine gq_then ?_ | refine gc_region ?_ | refine gq_block ?_)
  refine g_ld 10 rfl rfl rfl rfl rfl rfl ?_
  repeat' (refine g_pv rfl rfl ?_)
  refine g_call rfl (Cl.of Tryz.func71 rfl rfl) rfl rfl (fun w' hE => must_sp w') rfl (fun _ _ => ?_)
  repeat' (first | refine g_nil ?_ | refine gq_block ?_)
  exact gq_sub (L' := []) trivial (gq_hp (R' := FF l r b2 (⟨pre ++ [{ o with rels := o.rels ++ [rl], rA := ad2, rC := c2 }], some ⟨g0, 0, none⟩, oC, fns, fA, fC, mn⟩ : Pr) A3 Af Bb A2 Bs Bc E) (fun w' H => ff_re (by rw [re_cells (o := o)]; exact hp_tail (hp_fst (S := [[(b5, _)], [(g9, _)]]) H))) (kk (⟨pre ++ [{ o with rels := o.rels ++ [rl], rA := ad2, rC := c2 }], some ⟨g0, 0, none⟩, oC, fns, fA, fC, mn⟩ : Pr) A3 Af Bb A2 Bs Bc E (B.modO (own_len (by simp) ho3) (B.oL pre o rfl).1 ho2) (by simp [Pr.er, Ln.app, Ob.er, modL_snoc])))
set_option maxHeartbeats 16000000 in
theorem round_sl (st : Slt) (l : Nat) (r : Obj) (b2 : Nat) (w : World) (A : HL) (pr : Pr) (Ao Af Bb Br Bs Bc E : HL) (Q : Post) (B : Bd pr Ao Af Bb Br Bs Bc E) (hm : M0 (Oldh (XR l w A))) (hQ : NoP Q) (hZ : Sml pr) (hs : ∃ pre f, pr.fns = pre ++ [f]) (h1 : sm st.size) (h2 : sm st.align) (hok : okW (Ln.words (Ln.sl st))) (hlen : (Lib.join (Ln.words (Ln.sl st)) [32]).length ≤ 1000000000) (kk : Left (Ln.sl st) l r b2 w A pr Q) : GC (XR l w A) bodyC Q [(2, .pointer (some ⟨b2, 0, none⟩)), (4, .string (mkB (lnB ((Ln.sl st).words))))] (FF l r b2 pr Ao Af Bb Br Bs Bc E) := by
  refine gc_block ?_
  refine gc_seq ?_
  repeat' (first | refine g_pv rfl rfl ?_ | refine gc_region ?_)
  refine g_call rfl (Cl.of Tryz.func68 rfl rfl) rfl rfl (fun w' hE => trimS_sp (k_slot :: Lib.itoa st.size :: [Lib.itoa st.align]) w' (Nat.le_trans hlen (by decide))) rfl (fun _ _ => ?_)
  refine g_call rfl (Cl.of Tryz.func67 rfl rfl) rfl rfl (fun w' hE => splitS_sp (k_slot) (Lib.itoa st.size :: [Lib.itoa st.align]) w' hok (hm.le (old_le hE)) hlen) rfl (fun g _ => ?_)
  repeat' (fail)
  refine g_p (p_build rfl rfl rfl rfl) rfl ?_
  repeat' (first | refine g_pv rfl rfl ?_ | refine g_nil ?_ | refine gq_then ?_ | refine g_box rfl rfl (fun _ => ?_))
  rename_i b5
  have hR0 : RD b5 (k_slot :: Lib.itoa st.size :: [Lib.itoa st.align]) _ := RD.mk0 b5 g (k_slot :: Lib.itoa st.size :: [Lib.itoa st.align]) _ rfl
  refine gc_heap (R' := [[(b5, .cells ⟨[.slice (some ⟨g, 0, none⟩) _ _]⟩ 127 (0, 0))], [(g, .cells ⟨(k_slot :: Lib.itoa st.size :: [Lib.itoa st.align]).flatMap strW⟩ 9 (0, 0))]] ++ (FF l r b2 pr Ao Af Bb Br Bs Bc E)) (fun w H => H) ?_
  generalize [[(b5, Obj.cells ⟨[.slice (some ⟨g, 0, none⟩) _ _]⟩ 127 (0, 0))], [(g, Obj.cells ⟨(k_slot :: Lib.itoa st.size :: [Lib.itoa st.align]).flatMap strW⟩ 9 (0, 0))]] = R0 at hR0 ⊢
  refine gc_seq ?_
  refine gc_seq ?_
  repeat' (first | refine g_pv rfl rfl ?_ | refine gc_region ?_)
  refine g_call1 (A := R0) (F := FF l r b2 pr Ao Af Bb Br Bs Bc E) rfl rfl (Cl.of Tryz.func69 rfl rfl) rfl rfl (fun w' hE' => wnext_sp b5 _ _ R0 w' hR0 (hp_own hE')) rfl (fun R1 hR1 => ?_)
  refine g_heap (R' := (FF l r b2 pr Ao Af Bb Br Bs Bc E) ++ R1) (fun w H => hp_permL H List.perm_append_comm) ?_
  repeat' (first | refine g_pv rfl rfl ?_ | refine g_nil ?_ | refine gq_then ?_)
  refine gc_seq ?_
  repeat' (first | refine g_pv rfl rfl ?_ | refine g_nil ?_ | refine gq_then ?_ | refine gc_region ?_ | refine gc_block ?_)
  repeat' (first | refine gc_seq ?_ | refine gc_region ?_)
  refine g_p (p_eqT rfl rfl rfl) rfl ?_
  refine g_eq 64 (u' := .bool false) rfl (congrArg Value.bool ((eqT_mk (k_slot) k_object).trans (by decide))) ?_
  repeat' (first | refine g_pv rfl rfl ?_ | refine g_nil ?_ | refine gq_then ?_ | refine gc_seq ?_ | refine gc_region ?_ | refine gc_cond_f rfl ?_)
  refine g_p (p_eqT rfl rfl rfl) rfl ?_
  refine g_eq 93 (u' := .bool false) rfl (congrArg Value.bool ((eqT_mk (k_slot) k_data).trans (by decide))) ?_
  repeat' (first | refine g_pv rfl rfl ?_ | refine g_nil ?_ | refine gq_then ?_ | refine gc_seq ?_ | refine gc_region ?_ | refine gc_cond_f rfl ?_)
  refine g_p (p_eqT rfl rfl rfl) rfl ?_
  refine g_eq 113 (u' := .bool false) rfl (congrArg Value.bool ((eqT_mk (k_slot) k_reloc).trans (by decide))) ?_
  repeat' (first | refine g_pv rfl rfl ?_ | refine g_nil ?_ | refine gq_then ?_ | refine gc_seq ?_ | refine gc_region ?_ | refine gc_cond_f rfl ?_)
  refine g_p (p_eqT rfl rfl rfl) rfl ?_
  refine g_eq 144 (u' := .bool false) rfl (congrArg Value.bool ((eqT_mk (k_slot) k_func).trans (by decide))) ?_
  repeat' (first | refine g_pv rfl rfl ?_ | refine g_nil ?_ | refine gq_then ?_ | refine gc_seq ?_ | refine gc_region ?_ | refine gc_cond_f rfl ?_)
  refine g_p (p_eqT rfl rfl rfl) rfl ?_
  refine g_eq 162 (u' := .bool false) rfl (congrArg Value.bool ((eqT_mk (k_slot) k_main).trans (by decide))) ?_
  repeat' (first | refine g_pv rfl rfl ?_ | refine g_ld 1 rfl rfl rfl rfl rfl rfl ?_ | refine g_nil ?_ | refine gq_then ?_ | refine gc_seq ?_ | refine gc_region ?_ | refine gc_cond_f rfl ?_)
  obtain ⟨obs, oA, oC, fns, fA, fC, mn⟩ := pr
  obtain ⟨pre, f, hpo⟩ := hs
  dsimp only at hpo
  subst hpo
  obtain ⟨g0, cap0, rst0, hv0, -, -, -, -⟩ := Own.pos B.f (by simp)
  obtain rfl : fA = some ⟨g0, 0, none⟩ := (Value.slice.inj hv0).1
  have hpl : (pre ++ [f]).length = pre.length + 1 := by simp
  have hpb : (pre ++ [f]).length ≤ 2000000 := hZ.2.1
  have hoi : (pre ++ [f])[pre.length]? = some f := by simp
  have hset : ∀ f' : Fn, (pre ++ [f]).set pre.length f' = pre ++ [f'] := fun f' => by simp
  have hfl := hZ.2.2.2 f (by simp)
  repeat' (fail)
  refine g_eq 26 (u' := .bool true) rfl (by simp) ?_
  refine g_call rfl (Cl.of Tryz.func71 rfl rfl) rfl rfl (fun w' hE => must_sp w') rfl (fun _ _ => ?_)
  repeat' (first | refine g_pv rfl rfl ?_ | refine g_ld 1 rfl rfl rfl rfl rfl rfl ?_ | refine g_nil ?_ | refine gq_then ?_ | refine gc_seq ?_ | refine gc_region ?_)
  repeat' (fail)
  refine g_eq 33 (u' := .int .i64 (pre.length : Int)) rfl (by rw [hpl, IntKind.wrap_i64]; congr 1; omega) ?_
  refine g_p (p_ix rfl rfl rfl rfl (Int.natCast_nonneg pre.length) (by show ((pre.length : Nat) : Int) < (((pre ++ [f]).length : Nat) : Int); omega)) rfl ?_
  repeat' (first | refine g_pv rfl rfl ?_ | refine g_nil ?_ | refine gq_then ?_ | refine gc_seq ?_ | refine gc_region ?_)
  repeat' (fail)
  refine g_p (p_eqT rfl rfl rfl) rfl ?_
  refine g_eq 36 (u' := .bool true) rfl (congrArg Value.bool ((eqT_mk (k_slot) k_slot).trans (by decide))) ?_
  repeat' (first | refine g_nil ?_ | refine gq_then ?_ | refine gc_cond_t rfl ?_)
  refine gc_heap (R' := [Af, [(l, r)], [(b2, .cells ⟨(⟨obs, oA, oC, pre ++ [f], some ⟨g0, 0, none⟩, fC, mn⟩ : Pr).cells⟩ 25 (0, 0))], Ao, Bb, Br, Bs, Bc, E] ++ R1) (fun w H => hp_cnt [] H (fun a => by simp only [FF, List.cons_append, List.nil_append, List.flatten_append, List.flatten_cons, List.flatten_nil, List.count_append, List.count_cons, List.count_nil, List.append_nil]; omega)) ?_
  refine gc_draw [Af] ([[(l, r)], [(b2, .cells ⟨(⟨obs, oA, oC, pre ++ [f], some ⟨g0, 0, none⟩, fC, mn⟩ : Pr).cells⟩ 25 (0, 0))], Ao, Bb, Br, Bs, Bc, E] ++ R1) rfl (List.Perm.of_eq rfl) ?_
  (refine aP 0 rfl rfl ?_); (refine aP 1 rfl rfl ?_); (refine aP 2 rfl rfl ?_); (refine aP 3 rfl rfl ?_); (refine aP 5 rfl rfl ?_); (refine aP 7 rfl rfl ?_)
  refine ga_ldF 4 (f := Fn.cells) (sz := 6) (j := pre.length) (off := 4) (q := f) (by repeat first | exact NoP.sp | apply NoP.then | apply NoP.block | assumption) rfl wanted_none rfl rfl (still_rd (R0 := [Af]) 0 rfl (fun _ => rfl) B.f rfl) rfl hoi rfl rfl rfl (by kernel_rfl) (by kernel_rfl) (by kernel_rfl) ?_
  refine aO 6 rfl (fun K hK => ?_)
  refine g_heap (R' := R1 ++ [Af, [(l, r)], [(b2, .cells ⟨(⟨obs, oA, oC, pre ++ [f], some ⟨g0, 0, none⟩, fC, mn⟩ : Pr).cells⟩ 25 (0, 0))], Ao, Bb, Br, Bs, Bc, E]) (fun w H => hp_permL H List.perm_append_comm) ?_
  refine g_call1 (A := R1) (F := [Af, [(l, r)], [(b2, .cells ⟨(⟨obs, oA, oC, pre ++ [f], some ⟨g0, 0, none⟩, fC, mn⟩ : Pr).cells⟩ 25 (0, 0))], Ao, Bb, Br, Bs, Bc, E]) rfl rfl (Cl.of Tryz.func70 rfl rfl) rfl rfl (fun w' hE' => num_sp b5 st.size _ R1 w' h1 hR1 (hp_own hE')) rfl (fun R2 hR2 => ?_)
  refine g_heap (R' := [Af, [(l, r)], [(b2, .cells ⟨(⟨obs, oA, oC, pre ++ [f], some ⟨g0, 0, none⟩, fC, mn⟩ : Pr).cells⟩ 25 (0, 0))], Ao, Bb, Br, Bs, Bc, E] ++ R2) (fun w H => hp_permL H List.perm_append_comm) ?_
  refine g_nil ?_
  refine hK _ _ ⟨List.drop 1 [Af, [(l, r)], [(b2, .cells ⟨(⟨obs, oA, oC, pre ++ [f], some ⟨g0, 0, none⟩, fC, mn⟩ : Pr).cells⟩ 25 (0, 0))], Ao, Bb, Br, Bs, Bc, E] ++ R2, List.Perm.of_eq rfl⟩ ?_
  refine aO 8 rfl (fun K hK => ?_)
  refine g_heap (R' := R2 ++ [Af, [(l, r)], [(b2, .cells ⟨(⟨obs, oA, oC, pre ++ [f], some ⟨g0, 0, none⟩, fC, mn⟩ : Pr).cells⟩ 25 (0, 0))], Ao, Bb, Br, Bs, Bc, E]) (fun w H => hp_permL H List.perm_append_comm) ?_
  refine g_call1 (A := R2) (F := [Af, [(l, r)], [(b2, .cells ⟨(⟨obs, oA, oC, pre ++ [f], some ⟨g0, 0, none⟩, fC, mn⟩ : Pr).cells⟩ 25 (0, 0))], Ao, Bb, Br, Bs, Bc, E]) rfl rfl (Cl.of Tryz.func70 rfl rfl) rfl rfl (fun w' hE' => num_sp b5 st.align _ R2 w' h2 hR2 (hp_own hE')) rfl (fun R3 hR3 => ?_)
  refine g_heap (R' := [Af, [(l, r)], [(b2, .cells ⟨(⟨obs, oA, oC, pre ++ [f], some ⟨g0, 0, none⟩, fC, mn⟩ : Pr).cells⟩ 25 (0, 0))], Ao, Bb, Br, Bs, Bc, E] ++ R3) (fun w H => hp_permL H List.perm_append_comm) ?_
  refine g_nil ?_
  refine hK _ _ ⟨List.drop 1 [Af, [(l, r)], [(b2, .cells ⟨(⟨obs, oA, oC, pre ++ [f], some ⟨g0, 0, none⟩, fC, mn⟩ : Pr).cells⟩ 25 (0, 0))], Ao, Bb, Br, Bs, Bc, E] ++ R3, List.Perm.of_eq rfl⟩ ?_
  refine aQ 9 rfl (p_build rfl rfl rfl rfl) ?_
  refine aO 10 rfl (fun K hK => ?_)
  refine g_litL rfl rfl rfl rfl rfl rfl rfl rfl rfl rfl (fun g5 => ?_)
  refine g_nil ?_
  refine hK _ _ ⟨_ :: List.drop 1 ([Af, [(l, r)], [(b2, .cells ⟨(⟨obs, oA, oC, pre ++ [f], some ⟨g0, 0, none⟩, fC, mn⟩ : Pr).cells⟩ 25 (0, 0))], Ao, Bb, Br, Bs, Bc, E] ++ R3), List.perm_middle (l₁ := [Af])⟩ ?_
  refine aO 11 rfl (fun K hK => ?_)
  refine g_appL 7 (f := Slt.cells) (m := [st]) rfl rfl rfl rfl rfl rfl rfl (B.fL pre f rfl).1 (fun _ => rfl) (fun w' H => one_rd (hp_in H 0 rfl g5 _ List.mem_cons_self) rfl) (fun _ => rfl) (by unfold maxLen; simp only [List.length_singleton]; omega) (Nat.le_trans (Nat.mul_le_mul_right _ (Nat.add_le_add_right hfl.1 1)) (by decide)) rfl (fun v2 A2 ho2 => ?_)
  obtain ⟨ad2, c2, rfl, -⟩ := Own.shape ho2
  refine g_nil ?_
  refine hK _ _ ⟨_ :: ([[(l, r)], [(b2, .cells ⟨(⟨obs, oA, oC, pre ++ [f], some ⟨g0, 0, none⟩, fC, mn⟩ : Pr).cells⟩ 25 (0, 0))], Ao, Bb, Br, A2, Bc, E] ++ R3), List.perm_middle (l₁ := [Af])⟩ ?_
  (refine aP 12 rfl rfl ?_); (refine aP 13 rfl rfl ?_)
  refine ga_one (i := 14) (by kernel_rfl) (gs_last rfl (by kernel_rfl) (by kernel_rfl) (fun K hK => ?_))
  refine g_stF 1 (f := Fn.cells) (q := f) ({ f with slots := f.slots ++ [st], sA := ad2, sC := c2 }) (i := pre.length) (off := 4) rfl rfl rfl rfl B.f (fun _ => rfl) (by simp) hoi rfl (by decide) rfl rfl (fun A3 ho3 => ?_)
  rw [hset] at ho3
  refine g_nil ?_
  refine hK _ _ ?_
  have hRz := hR3
  obtain ⟨ad9, c9, g9, cs9, rfl, -, -⟩ := hRz
  repeat' (first | refine g_pv rfl rfl ?_ | refine gq_then ?_ | refine gc_region ?_ | refine gq_block ?_)
  refine g_ld 10 rfl rfl rfl rfl rfl rfl ?_
  repeat' (refine g_pv rfl rfl ?_)
  refine g_call rfl (Cl.of Tryz.func71 rfl rfl) rfl rfl (fun w' hE => must_sp w') rfl (fun _ _ => ?_)
  repeat' (first | refine g_nil ?_ | refine gq_block ?_)
  exact gq_sub (L' := []) trivial (gq_hp (R' := FF l r b2 (⟨obs, oA, oC, pre ++ [{ f with slots := f.slots ++ [st], sA := ad2, sC := c2 }], some ⟨g0, 0, none⟩, fC, mn⟩ : Pr) Ao A3 Bb Br A2 Bc E) (fun w' H => ff_sl (by rw [sl_cells (f := f)]; exact hp_tail (hp_fst (S := [[(b5, _)], [(g9, _)]]) H))) (kk (⟨obs, oA, oC, pre ++ [{ f with slots := f.slots ++ [st], sA := ad2, sC := c2 }], some ⟨g0, 0, none⟩, fC, mn⟩ : Pr) Ao A3 Bb Br A2 Bc E (B.modF (Aa := []) (own_len (by simp) ho3) ho2 (B.fL pre f rfl).2.1 (fun H hH x hx => (B.fL pre f rfl).2.2 H hH.r x hx)) (by simp [Pr.er, Ln.app, Fn.er, modL_snoc])))
end Go.Proofs.YtpohhfggmaihpaaGreatDoor

/- Rounds that read an instruction. -/
namespace Go.Proofs.YtpohhfggmaihpaaGreatDoor
open Go.Wk
set_option linter.unusedVariables false
set_option linter.unusedSimpArgs false
attribute [local irreducible] G GC GQ GA GS Exit.then Exit.inBlock

set_option maxHeartbeats 16000000 in
theorem round_in (x : Ins) (l : Nat) (r : Obj) (b2 : Nat) (w : World) (A : HL) (pr : Pr) (Ao Af Bb Br Bs Bc E : HL) (Q : Post) (B : Bd pr Ao Af Bb Br Bs Bc E) (hm : M0 (Oldh (XR l w A))) (hQ : NoP Q) (hZ : Sml pr) (hs : ∃ pre f, pr.fns = pre ++ [f]) (hP : PI x) (hbin : binOk x) (hS : SmI x) (hsh : ShI x) (hok : okW (Ln.words (Ln.ins x))) (hlen : (Lib.join (Ln.words (Ln.ins x)) [32]).length ≤ 1000000000) (kk : Left (Ln.ins x) l r b2 w A pr Q) : GC (XR l w A) bodyC Q [(2, .pointer (some ⟨b2, 0, none⟩)), (4, .string (mkB (lnB ((Ln.ins x).words))))] (FF l r b2 pr Ao Af Bb Br Bs Bc E) := by
  obtain ⟨t, ht⟩ := insW_head hP
  have hw : Ln.words (Ln.ins x) = opN x :: t := ht
  rw [hw] at hok hlen ⊢
  have hk := opN_key hP hbin
  refine gc_block ?_
  refine gc_seq ?_
  repeat' (first | refine g_pv rfl rfl ?_ | refine gc_region ?_)
  refine g_call rfl (Cl.of Tryz.func68 rfl rfl) rfl rfl (fun w' hE => trimS_sp (opN x :: t) w' (Nat.le_trans hlen (by decide))) rfl (fun _ _ => ?_)
  refine g_call rfl (Cl.of Tryz.func67 rfl rfl) rfl rfl (fun w' hE => splitS_sp (opN x) (t) w' hok (hm.le (old_le hE)) hlen) rfl (fun g _ => ?_)
  repeat' (fail)
  refine g_p (p_build rfl rfl rfl rfl) rfl ?_
  repeat' (first | refine g_pv rfl rfl ?_ | refine g_nil ?_ | refine gq_then ?_ | refine g_box rfl rfl (fun _ => ?_))
  rename_i b5
  have hR0 : RD b5 (opN x :: t) _ := RD.mk0 b5 g (opN x :: t) _ rfl
  refine gc_heap (R' := [[(b5, .cells ⟨[.slice (some ⟨g, 0, none⟩) _ _]⟩ 127 (0, 0))], [(g, .cells ⟨(opN x :: t).flatMap strW⟩ 9 (0, 0))]] ++ (FF l r b2 pr Ao Af Bb Br Bs Bc E)) (fun w H => H) ?_
  generalize [[(b5, Obj.cells ⟨[.slice (some ⟨g, 0, none⟩) _ _]⟩ 127 (0, 0))], [(g, Obj.cells ⟨(opN x :: t).flatMap strW⟩ 9 (0, 0))]] = R0 at hR0 ⊢
  refine gc_seq ?_
  refine gc_seq ?_
  repeat' (first | refine g_pv rfl rfl ?_ | refine gc_region ?_)
  refine g_call1 (A := R0) (F := FF l r b2 pr Ao Af Bb Br Bs Bc E) rfl rfl (Cl.of Tryz.func69 rfl rfl) rfl rfl (fun w' hE' => wnext_sp b5 _ _ R0 w' hR0 (hp_own hE')) rfl (fun R1 hR1 => ?_)
  refine g_heap (R' := (FF l r b2 pr Ao Af Bb Br Bs Bc E) ++ R1) (fun w H => hp_permL H List.perm_append_comm) ?_
  repeat' (first | refine g_pv rfl rfl ?_ | refine g_nil ?_ | refine gq_then ?_)
  refine gc_seq ?_
  repeat' (first | refine g_pv rfl rfl ?_ | refine g_nil ?_ | refine gq_then ?_ | refine gc_region ?_ | refine gc_block ?_)
  repeat' (first | refine gc_seq ?_ | refine gc_region ?_)
  refine g_p (p_eqT rfl rfl rfl) rfl ?_
  refine g_eq 64 (u' := .bool false) rfl (congrArg Value.bool ((eqT_mk (opN x) k_object).trans (decide_eq_false hk.1))) ?_
  repeat' (first | refine g_pv rfl rfl ?_ | refine g_nil ?_ | refine gq_then ?_ | refine gc_seq ?_ | refine gc_region ?_ | refine gc_cond_f rfl ?_)
  refine g_p (p_eqT rfl rfl rfl) rfl ?_
  refine g_eq 93 (u' := .bool false) rfl (congrArg Value.bool ((eqT_mk (opN x) k_data).trans (decide_eq_false hk.2.1))) ?_
  repeat' (first | refine g_pv rfl rfl ?_ | refine g_nil ?_ | refine gq_then ?_ | refine gc_seq ?_ | refine gc_region ?_ | refine gc_cond_f rfl ?_)
  refine g_p (p_eqT rfl rfl rfl) rfl ?_
  refine g_eq 113 (u' := .bool false) rfl (congrArg Value.bool ((eqT_mk (opN x) k_reloc).trans (decide_eq_false hk.2.2.1))) ?_
  repeat' (first | refine g_pv rfl rfl ?_ | refine g_nil ?_ | refine gq_then ?_ | refine gc_seq ?_ | refine gc_region ?_ | refine gc_cond_f rfl ?_)
  refine g_p (p_eqT rfl rfl rfl) rfl ?_
  refine g_eq 144 (u' := .bool false) rfl (congrArg Value.bool ((eqT_mk (opN x) k_func).trans (decide_eq_false hk.2.2.2.1))) ?_
  repeat' (first | refine g_pv rfl rfl ?_ | refine g_nil ?_ | refine gq_then ?_ | refine gc_seq ?_ | refine gc_region ?_ | refine gc_cond_f rfl ?_)
  refine g_p (p_eqT rfl rfl rfl) rfl ?_
  refine g_eq 162 (u' := .bool false) rfl (congrArg Value.bool ((eqT_mk (opN x) k_main).trans (decide_eq_false hk.2.2.2.2.1))) ?_
  repeat' (first | refine g_pv rfl rfl ?_ | refine g_ld 1 rfl rfl rfl rfl rfl rfl ?_ | refine g_nil ?_ | refine gq_then ?_ | refine gc_seq ?_ | refine gc_region ?_ | refine gc_cond_f rfl ?_)
  obtain ⟨obs, oA, oC, fns, fA, fC, mn⟩ := pr
  obtain ⟨pre, f, hpo⟩ := hs
  dsimp only at hpo
  subst hpo
  obtain ⟨g0, cap0, rst0, hv0, -, -, -, -⟩ := Own.pos B.f (by simp)
  obtain rfl : fA = some ⟨g0, 0, none⟩ := (Value.slice.inj hv0).1
  have hpl : (pre ++ [f]).length = pre.length + 1 := by simp
  have hpb : (pre ++ [f]).length ≤ 2000000 := hZ.2.1
  have hoi : (pre ++ [f])[pre.length]? = some f := by simp
  have hset : ∀ f' : Fn, (pre ++ [f]).set pre.length f' = pre ++ [f'] := fun f' => by simp
  have hfl := hZ.2.2.2 f (by simp)
  repeat' (fail)
  refine g_eq 26 (u' := .bool true) rfl (by simp) ?_
  refine g_call rfl (Cl.of Tryz.func71 rfl rfl) rfl rfl (fun w' hE => must_sp w') rfl (fun _ _ => ?_)
  repeat' (first | refine g_pv rfl rfl ?_ | refine g_ld 1 rfl rfl rfl rfl rfl rfl ?_ | refine g_nil ?_ | refine gq_then ?_ | refine gc_seq ?_ | refine gc_region ?_)
  repeat' (fail)
  refine g_eq 33 (u' := .int .i64 (pre.length : Int)) rfl (by rw [hpl, IntKind.wrap_i64]; congr 1; omega) ?_
  refine g_p (p_ix rfl rfl rfl rfl (Int.natCast_nonneg pre.length) (by show ((pre.length : Nat) : Int) < (((pre ++ [f]).length : Nat) : Int); omega)) rfl ?_
  repeat' (first | refine g_pv rfl rfl ?_ | refine g_nil ?_ | refine gq_then ?_ | refine gc_seq ?_ | refine gc_region ?_)
  repeat' (fail)
  refine g_p (p_eqT rfl rfl rfl) rfl ?_
  refine g_eq 36 (u' := .bool false) rfl (congrArg Value.bool ((eqT_mk (opN x) k_slot).trans (decide_eq_false hk.2.2.2.2.2))) ?_
  repeat' (first | refine g_nil ?_ | refine gq_then ?_ | refine gc_cond_f rfl ?_)
  refine gc_heap (R' := [Af, [(l, r)], [(b2, .cells ⟨(⟨obs, oA, oC, pre ++ [f], some ⟨g0, 0, none⟩, fC, mn⟩ : Pr).cells⟩ 25 (0, 0))], Ao, Bb, Br, Bs, Bc, E] ++ R1) (fun w H => hp_cnt [] H (fun a => by simp only [FF, List.cons_append, List.nil_append, List.flatten_append, List.flatten_cons, List.flatten_nil, List.count_append, List.count_cons, List.count_nil, List.append_nil]; omega)) ?_
  refine gc_draw [Af] ([[(l, r)], [(b2, .cells ⟨(⟨obs, oA, oC, pre ++ [f], some ⟨g0, 0, none⟩, fC, mn⟩ : Pr).cells⟩ 25 (0, 0))], Ao, Bb, Br, Bs, Bc, E] ++ R1) rfl (List.Perm.of_eq rfl) ?_
  (refine aP 0 rfl rfl ?_); (refine aP 1 rfl rfl ?_); (refine aP 2 rfl rfl ?_); (refine aP 3 rfl rfl ?_); (refine aP 5 rfl rfl ?_); (refine aP 6 rfl rfl ?_)
  refine ga_ldF 4 (f := Fn.cells) (sz := 6) (j := pre.length) (off := 5) (q := f) (by repeat first | exact NoP.sp | apply NoP.then | apply NoP.block | assumption) rfl wanted_none rfl rfl (still_rd (R0 := [Af]) 0 rfl (fun _ => rfl) B.f rfl) rfl hoi rfl rfl rfl (by kernel_rfl) (by kernel_rfl) (by kernel_rfl) ?_
  refine aO 7 rfl (fun K hK => ?_)
  refine g_heap (R' := R1 ++ [Af, [(l, r)], [(b2, .cells ⟨(⟨obs, oA, oC, pre ++ [f], some ⟨g0, 0, none⟩, fC, mn⟩ : Pr).cells⟩ 25 (0, 0))], Ao, Bb, Br, Bs, Bc, E]) (fun w H => hp_permL H List.perm_append_comm) ?_
  refine g_call1 (A := R1) (F := [Af, [(l, r)], [(b2, .cells ⟨(⟨obs, oA, oC, pre ++ [f], some ⟨g0, 0, none⟩, fC, mn⟩ : Pr).cells⟩ 25 (0, 0))], Ao, Bb, Br, Bs, Bc, E]) rfl rfl (Cl.of Tryz.func74 rfl rfl) rfl rfl (fun w' hE' => rins_sp b5 x R1 w' hP hbin hS hsh (by rw [ht]; exact hR1) (hp_own hE')) rfl ?_
  rintro ⟨ai, ci, Aa, R2⟩ ⟨hR2, hAa⟩
  dsimp only at hR2 hAa ⊢
  refine g_heap (R' := [Af, [(l, r)], [(b2, .cells ⟨(⟨obs, oA, oC, pre ++ [f], some ⟨g0, 0, none⟩, fC, mn⟩ : Pr).cells⟩ 25 (0, 0))], Ao, Bb, Br, Bs, Bc, E, Aa] ++ R2) (fun w H => hp_cnt [] H (fun a => by simp only [FF, List.cons_append, List.nil_append, List.flatten_append, List.flatten_cons, List.flatten_nil, List.count_append, List.count_cons, List.count_nil, List.append_nil]; omega)) ?_
  refine g_nil ?_
  refine hK _ _ ⟨List.drop 1 [Af, [(l, r)], [(b2, .cells ⟨(⟨obs, oA, oC, pre ++ [f], some ⟨g0, 0, none⟩, fC, mn⟩ : Pr).cells⟩ 25 (0, 0))], Ao, Bb, Br, Bs, Bc, E, Aa] ++ R2, List.Perm.of_eq rfl⟩ ?_
  refine aO 8 rfl (fun K hK => ?_)
  refine g_litL rfl rfl rfl rfl rfl rfl rfl rfl rfl rfl (fun g5 => ?_)
  refine g_nil ?_
  refine hK _ _ ⟨_ :: List.drop 1 ([Af, [(l, r)], [(b2, .cells ⟨(⟨obs, oA, oC, pre ++ [f], some ⟨g0, 0, none⟩, fC, mn⟩ : Pr).cells⟩ 25 (0, 0))], Ao, Bb, Br, Bs, Bc, E, Aa] ++ R2), List.perm_middle (l₁ := [Af])⟩ ?_
  refine aO 9 rfl (fun K hK => ?_)
  refine g_appL 8 (f := Ins.cells) (m := [insY x ai ci]) rfl rfl rfl rfl rfl rfl rfl (B.fL pre f rfl).2.1 (fun _ => rfl) (fun w' H => one_rd (hp_in H 0 rfl g5 _ List.mem_cons_self) rfl) (fun _ => rfl) (by unfold maxLen; simp only [List.length_singleton]; omega) (Nat.le_trans (Nat.mul_le_mul_right _ (Nat.add_le_add_right hfl.2 1)) (by decide)) rfl (fun v2 A2 ho2 => ?_)
  obtain ⟨ad2, c2, rfl, -⟩ := Own.shape ho2
  refine g_nil ?_
  refine hK _ _ ⟨_ :: ([[(l, r)], [(b2, .cells ⟨(⟨obs, oA, oC, pre ++ [f], some ⟨g0, 0, none⟩, fC, mn⟩ : Pr).cells⟩ 25 (0, 0))], Ao, Bb, Br, Bs, A2, E, Aa] ++ R2), List.perm_middle (l₁ := [Af])⟩ ?_
  (refine aP 10 rfl rfl ?_); (refine aP 11 rfl rfl ?_)
  refine ga_one (i := 12) (by kernel_rfl) (gs_last rfl (by kernel_rfl) (by kernel_rfl) (fun K hK => ?_))
  refine g_stF 1 (f := Fn.cells) (q := f) ({ f with code := f.code ++ [insY x ai ci], cA := ad2, cC := c2 }) (i := pre.length) (off := 5) rfl rfl rfl rfl B.f (fun _ => rfl) (by simp) hoi rfl (by decide) rfl rfl (fun A3 ho3 => ?_)
  rw [hset] at ho3
  refine g_nil ?_
  refine hK _ _ ?_
  have hRz := hR2
  obtain ⟨ad9, c9, g9, cs9, rfl, -, -⟩ := hRz
  repeat' (first | refine g_pv rfl rfl ?_ | refine gq_then ?_ | refine gc_region ?_ | refine gq_block ?_)
  refine g_ld 11 rfl rfl rfl rfl rfl rfl ?_
  repeat' (refine g_pv rfl rfl ?_)
  refine g_call rfl (Cl.of Tryz.func71 rfl rfl) rfl rfl (fun w' hE => must_sp w') rfl (fun _ _ => ?_)
  repeat' (first | refine g_nil ?_ | refine gq_block ?_)
  exact gq_sub (L' := []) trivial (gq_hp (R' := FF l r b2 (⟨obs, oA, oC, pre ++ [{ f with code := f.code ++ [insY x ai ci], cA := ad2, cC := c2 }], some ⟨g0, 0, none⟩, fC, mn⟩ : Pr) Ao A3 Bb Br Bs A2 (Aa ++ E)) (fun w' H => ff_in (by rw [sl_cells (f := f)]; exact hp_tail (hp_fst (S := [[(b5, _)], [(g9, _)]]) H))) (kk (⟨obs, oA, oC, pre ++ [{ f with code := f.code ++ [insY x ai ci], cA := ad2, cC := c2 }], some ⟨g0, 0, none⟩, fC, mn⟩ : Pr) Ao A3 Bb Br Bs A2 (Aa ++ E) (B.modF (Aa := Aa) (own_len (by simp) ho3) (B.fL pre f rfl).1 ho2 (fun H hH y hy => (List.mem_append.1 hy).elim (fun h => (B.fL pre f rfl).2.2 H hH.r y h) (fun h => by obtain rfl := List.mem_singleton.1 h; exact ownL_rdH hAa (fun _ => rfl) hH.l))) (by simp [Pr.er, Ln.app, Fn.er, modL_snoc, Ins.er, insY])))
end Go.Proofs.YtpohhfggmaihpaaGreatDoor

/- A deferred call that asks for a panic; two results that lie in cells. -/
namespace Go.Wk
set_option linter.unusedVariables false
set_option linter.unusedSimpArgs false
section
variable {X : Cx} {ops : Array Oper} {Q : Post} {rest : List Oper} {L : LT} {R : RL} {ty : TypeId} {p : String} {af : Array Edge}
abbrev dfr (f : FuncId) (cp : Array Value) : Deferred := { target := .fn (.func f) cp, args := #[] }
/-- defer f(). -/
theorem g_defer {f : FuncId} {cp : Array Value} {fo : Operand} (hro : X.ro = none) (hf : ev L fo = some (.func (.func f) #[] cp)) (k : G (wd X (dfr f cp :: X.ds)) ops Q rest L R) :
    G X ops Q (⟨none, .defer ⟨.value fo, #[], #[]⟩, ty, p, af, none⟩ :: rest) L R := by
  intro a w ha hE
  refine wpListIn_plain rfl (fun K hK => ?_)
  refine ⟨fun _ _ => trivial, ?_⟩
  have hs : Oper.semAt (Fr X.ro).round a.eval ⟨none, .defer ⟨.value fo, #[], #[]⟩, ty, p, af, none⟩ = execOp a.eval ⟨none, .defer ⟨.value fo, #[], #[]⟩, ty, p, af, none⟩ := by rw [hro]; rfl
  rw [hs]
  have hrun : (execOp a.eval ⟨none, .defer ⟨.value fo, #[], #[]⟩, ty, p, af, none⟩).run X.s.P w = .ok (.defer (dfr f cp)) w := by
    simp only [execOp, resolve, ha.kn.ev hf, Deferred.ofValue, Sem.run_bind, run_pure', Result.andThen_ok]
    simp
  rw [hrun, Oper.uponIn_defer]
  refine hK _ _ (k { a with defers := dfr f cp :: a.defers } w ⟨ha.size, ?_, fun i v h => ha.kn i v h⟩ hE)
  show dfr f cp :: a.defers = dfr f cp :: X.ds
  rw [ha.defers]
/-- A deferred call that asks for a panic, where there is none. -/
theorem recover_calm {s : Sx} {f : FuncId} {fn : Func} {id d : Nat} {rest : Code} {args : List Value} {w : World} {R : RL} {N : Nat} {R' : Ending → FrameMode → World → Prop}
    (hf : s.P.funcs[f]? = some fn) (hb : fn.body = some (.seq (.region id #[⟨some d, .call ⟨.builtin .recover, #[], #[]⟩, ty, p, af, none⟩] false) rest)) (hN : fn.ntmps = N) (hlen : Nat.ble args.length N = true) (hd : Nat.blt d N = true)
    (hE : Eff w R.flatten w R.flatten)
    (h : ∀ (c₀ : Frame) (cs : List Frame), c₀.mode = .returning → GC ⟨s, none, 0, N, [], w, R.flatten⟩ rest (fun e a w' => bodyPostS s.P fn c₀ cs R' e a (c₀ :: cs) w') ((d, .nilIface) :: zipL 0 args) R) :
    CallsDIn Fence.wide 0 s.P f args.toArray .returning w R' := by
  have hle := Nat.le_of_ble_eq_true hlen
  refine callsDIn_of_wpSIn hf hb trivial (fun c₀ cs hm => ?_)
  refine wpSIn_seq (wpSIn_region ?_)
  have hrec : recoverD (c₀ :: cs) = none := by simp only [recoverD, hm]
  have hok : Ok ⟨s, none, 0, N, [], w, R.flatten⟩ { tmps := args.toArray ++ Array.replicate (fn.ntmps - args.toArray.size) undef, defers := [] } (zipL 0 args) := by
    refine ⟨?_, rfl, ?_⟩
    · simp [hN]; omega
    · intro i v hi
      obtain ⟨j, rfl, hj⟩ := lk_zipL args 0 i v hi
      have hlt : j < args.length := (List.getElem?_eq_some_iff.1 hj).1
      simp only [Nat.zero_add, Array.getD_eq_getD_getElem?]
      rw [Array.getElem?_append_left (by simpa using hlt)]
      simp [hj]
  show wpOpsSIn _ _ _ _ _ [0] _ _ _
  simp only [wpOpsSIn, List.getElem?_toArray, List.getElem?_cons_zero, Region.wanted, if_true]
  refine ⟨fun _ _ => trivial, ?_⟩
  have hx : ∀ ρ : Operand → Value, (execOp ρ (⟨some d, .call ⟨.builtin .recover, #[], #[]⟩, ty, p, af, none⟩ : Oper)).run s.P w = .ok .recover w := fun ρ => by
    simp only [execOp, resolve, Sem.run_bind, run_pure', Result.andThen_ok, invoke]
    rfl
  simp only [hx, hrec]
  refine wpSIn_of_wpIn rfl ?_
  exact h c₀ cs hm _ w (hok.put hd _) hE
theorem gq_rec0 {s : Sx} {N : Nat} {w : World} {fn : Func} {c₀ : Frame} {cs : List Frame} {R0 R : RL} {L : LT} {R' : Ending → FrameMode → World → Prop} {e : Exit} (he : e = .normal ∨ e = .ret) (hm : c₀.mode = .returning) (hfn : fn.results = #[])
    (k : ∀ w', Hp ⟨s, none, 0, N, [], w, R0.flatten⟩ w' R → R' (.returned (.tuple #[])) .returning w') : GQ ⟨s, none, 0, N, [], w, R0.flatten⟩ (fun e a w' => bodyPostS s.P fn c₀ cs R' e a (c₀ :: cs) w') e L R := by
  intro a w' ha hE
  have key : a.defers = [] ∧ ∃ u', (c₀ :: cs) = { c₀ with mode := u' } :: cs ∧ ∃ v, (results fn a.tmps).run s.P w' = .ok v w' ∧ R' (.returned v) u' w' :=
    ⟨ha.defers, .returning, by rw [← hm], .tuple #[], by simp [results, hfn], k w' hE⟩
  rcases he with rfl | rfl <;> exact key
/-- Two results: one lies in a cell. -/
theorem gq_retCT {fn : Func} {Rp : Ending → World → Prop} {e : Exit} (he : e = .normal ∨ e = .ret) (hds : X.ds = []) {t1 t2 : Tmp} {y1 : TypeId} (hfn : fn.results = #[.cell t1 y1, .tmp t2]) (i1 : Nat) {b1 o1 : Nat} {ti1 : Ti} {l1 c1 : List Value} {e1 : TypeId} {f1 : Nat × Nat} {A1 : HL} {v1 v2 : Value}
    (hR1 : R[i1]? = some ((b1, .cells ⟨l1⟩ e1 f1) :: A1)) (hp1 : lk L t1 = some (.pointer (some ⟨b1, o1, none⟩))) (ht1 : tl X.s.tab y1 = some ti1) (hc1 : takeC l1 o1 ti1.sz = some c1) (hv1 : asV ti1.k c1 = some v1) (hv2 : lk L t2 = some v2)
    (k : ∀ w, Hp X w R → Rp (.returned (.tuple #[v1, v2])) w) : GQ X (bodyPost X.s.P fn Rp) e L R :=
  gq_ret he hds (.tuple #[v1, v2]) (fun a w ha hE => by
    obtain ⟨h1, h2⟩ := takeC_spec _ _ _ _ hc1
    have hb := hp_cellA hE hR1
    have hl : (Instr.loadAt y1 (.pointer (some ⟨b1, o1, none⟩))).run X.s.P w = .ok v1 w := run_loadAt (X.s.ok.at ht1) h1 hv1 (fun j u hj => by
      simp only [World.cell?, hb]
      simpa using h2 j u hj)
    have hg : a.tmps.getD t1 undef = .pointer (some ⟨b1, o1, none⟩) := ha.kn _ _ hp1
    have g1 : (do loadVar y1 (← asAddr (a.tmps.getD t1 undef)) : Sem Value).run X.s.P w = .ok v1 w := by rw [hg]; exact hl
    have g2 : a.tmps.getD t2 undef = v2 := ha.kn _ _ hv2
    have hr : (results fn a.tmps) = (do
        let x ← (do loadVar y1 (← asAddr (a.tmps.getD t1 undef)) : Sem Value)
        pure (.tuple #[x, a.tmps.getD t2 undef])) := by
      simp [results, hfn]
    rw [hr, Sem.run_bind, g1, Result.andThen_ok, g2]; rfl) k
/-- Two results that lie in cells, behind a mark and a deferred call. -/
theorem gq_retCC {fn : Func} {Rp : Ending → World → Prop} {e : Exit} (he : e = .normal ∨ e = .ret) {D : Nat} {f : FuncId} {cp : Array Value} {F : RL} (hds : X.ds = [mark D, dfr f cp])
    (hR : ∀ w, Hp X w R → Hp X w ([(D, .deferred (some []))] :: F)) (hcl : Cl X.s.P f)
    (hcall : ∀ w, Hp X w F → CallsDIn Fence.wide 0 X.s.P f cp .returning w (fun e u' w' => e = .returned (.tuple #[]) ∧ u' = .returning ∧ Hp X w' F))
    {t1 t2 : Tmp} {y1 y2 : TypeId} (hfn : fn.results = #[.cell t1 y1, .cell t2 y2]) (i1 i2 : Nat) {b1 o1 b2 o2 : Nat} {ti1 ti2 : Ti} {l1 c1 l2 c2 : List Value} {e1 e2 : TypeId} {f1 f2 : Nat × Nat} {A1 A2 : HL} {v1 v2 : Value}
    (hR1 : F[i1]? = some ((b1, .cells ⟨l1⟩ e1 f1) :: A1)) (hp1 : lk L t1 = some (.pointer (some ⟨b1, o1, none⟩))) (ht1 : tl X.s.tab y1 = some ti1) (hc1 : takeC l1 o1 ti1.sz = some c1) (hv1 : asV ti1.k c1 = some v1)
    (hR2 : F[i2]? = some ((b2, .cells ⟨l2⟩ e2 f2) :: A2)) (hp2 : lk L t2 = some (.pointer (some ⟨b2, o2, none⟩))) (ht2 : tl X.s.tab y2 = some ti2) (hc2 : takeC l2 o2 ti2.sz = some c2) (hv2 : asV ti2.k c2 = some v2)
    (k : ∀ w, Hp X w F → Rp (.returned (.tuple #[v1, v2])) w) : GQ X (bodyPostM Fence.wide 0 X.s.P fn Rp) e L R := by
  intro a w ha hE
  have hE1 := hR w hE
  have hres : ∀ w', Hp X w' F → (results fn a.tmps).run X.s.P w' = .ok (.tuple #[v1, v2]) w' := fun w' hF => by
    have go : ∀ {i b o : Nat} {ty : TypeId} {ti : Ti} {l cs : List Value} {ee : TypeId} {fz : Nat × Nat} {A : HL} {v : Value} {t : Tmp}, F[i]? = some ((b, .cells ⟨l⟩ ee fz) :: A) → lk L t = some (.pointer (some ⟨b, o, none⟩)) → tl X.s.tab ty = some ti → takeC l o ti.sz = some cs → asV ti.k cs = some v →
        (do loadVar ty (← asAddr (a.tmps.getD t undef)) : Sem Value).run X.s.P w' = .ok v w' := fun {i b o ty ti l cs ee fz A v t} hR hp ht hc hv => by
      obtain ⟨h1, h2⟩ := takeC_spec _ _ _ _ hc
      have hb := hp_cellA hF hR
      have hl : (Instr.loadAt ty (.pointer (some ⟨b, o, none⟩))).run X.s.P w' = .ok v w' := run_loadAt (X.s.ok.at ht) h1 hv (fun j u hj => by
        simp only [World.cell?, hb]
        simpa using h2 j u hj)
      have hg : a.tmps.getD t undef = .pointer (some ⟨b, o, none⟩) := ha.kn _ _ hp
      rw [hg]; exact hl
    have g1 := go hR1 hp1 ht1 hc1 hv1
    have g2 := go hR2 hp2 ht2 hc2 hv2
    have hr : (results fn a.tmps) = (do
        let x ← (do loadVar y1 (← asAddr (a.tmps.getD t1 undef)) : Sem Value)
        let y ← (do loadVar y2 (← asAddr (a.tmps.getD t2 undef)) : Sem Value)
        pure (.tuple #[x, y])) := by
      simp [results, hfn]
    rw [hr, Sem.run_bind, g1, Result.andThen_ok, Sem.run_bind, g2]; rfl
  have hl : w.heap[D]? = some (.deferred (some [])) := hE1.holds D _ (by simp)
  have hg' := run_getObj (P := X.s.P) hl (by intro c e f h; cases h)
  have hs' := run_setObj (P := X.s.P) hl (by intro c e f h; cases h) (.deferred none)
  have hF : Hp X { w with heap := w.heap.setIfInBounds D (.deferred none) } F := by
    unfold Hp at hE1
    rw [List.flatten_cons] at hE1
    exact hp_tail (A := [(D, .deferred none)]) (by unfold Hp; rw [List.flatten_cons]; exact Eff.seq hE1 (Eff.setObj (o' := .deferred none) hl))
  have key : LeavesInM Fence.wide 0 X.s.P fn a.tmps Rp a.defers .returning w := by
    rw [ha.defers, hds]
    refine ⟨(by intro h; cases h), .inl ⟨D, { w with heap := w.heap.setIfInBounds D (.deferred none) }, rfl, ?_, (by intro h; cases h), .inr ⟨fun _ => by simp [Fence.wide] at *, .func f, cp, f, cp, rfl, ?_, fun _ _ => trivial, ?_⟩⟩⟩
    · simp only [Instr.takeDeferred, Sem.run_bind, hg', Result.andThen_ok, run_pure', hs']
    · show (callFunc f (#[] ++ cp)).run X.s.P _ = _
      rw [Array.empty_append]
      exact hcl _ _
    · have h3 := hcall _ hF
      refine ⟨h3.1, fun c cs hc hr => ?_⟩
      obtain ⟨e', u', w', fr, ⟨he', hu', hh⟩, h4⟩ := h3.2 c cs hc hr
      subst he' hu'
      refine ⟨.returned (.tuple #[]), .returning, w', fr, ?_, h4⟩
      exact ⟨.tuple #[v1, v2], hres w' hh, k w' hh⟩
  rcases he with rfl | rfl <;> exact key
end
end Go.Wk

/- strings.Lines, walked: a text line by line. -/
namespace Go.Proofs.YtpohhfggmaihpaaGreatDoor
open Go.Wk
set_option linter.unusedVariables false
set_option linter.unusedSimpArgs false
attribute [local irreducible] G GC GQ GA GS Exit.then Exit.inBlock

theorem mkB_size (l : Bs) : (mkB l).size = l.length := size_bytesL _
theorem join_ne10 : ∀ {W : List Bs}, okW W → ∀ x ∈ Lib.join W [32], x ≠ 10
  | [], _, x, hx => by simp [Lib.join] at hx
  | [a], h, x, hx => by
    have : x ∈ a := by simpa [Lib.join] using hx
    exact (h a List.mem_cons_self x this).2
  | a :: b :: r, h, x, hx => by
    rw [join2] at hx
    rcases List.mem_append.1 hx with hx | hx
    · exact (h a List.mem_cons_self x hx).2
    · rcases List.mem_cons.1 hx with rfl | hx
      · decide
      · exact join_ne10 (fun y hy => h y (List.mem_cons_of_mem _ hy)) x hx
theorem exc_app {w : World} {A B : HL} : Hle (exc w (A ++ B)) (exc w A) := fun b o h => by
  unfold exc at h ⊢
  split at h
  · cases h
  · rename_i hb
    rw [if_neg (fun h' => hb (by rw [ids_append]; exact List.mem_append_left _ h'))]; exact h
theorem exc_le {w w' : World} {A A' : HL} (E : Eff w A w' A') : Hle (exc w A) (exc w' A') := by
  intro b o h
  unfold exc at h ⊢
  by_cases hb : b ∈ ids A
  · rw [if_pos hb] at h; cases h
  · rw [if_neg hb] at h
    have hlt := (Array.getElem?_eq_some_iff.1 h).1
    rw [if_neg (fun hb' => by rcases E.fresh b hb' with h1 | h1
                              · exact hb h1
                              · omega), E.keep b hlt hb]
    exact h
theorem lines_sp (s : ByteArray) (w : World) : Sp Tryz.prog 66 [.string s] w [] (fun b : Nat => .func (.func 109) #[] #[.pointer (some ⟨b, 0, none⟩)]) (fun b => [[(b, .cells ⟨[.string s]⟩ 9 (0, 0))]]) (fun _ => True) := by
  refine enter (s := Tryz.sx) [] Tryz.func66 rfl rfl rfl (Eff.refl w) ?_
  repeat' (first | refine g_pv rfl rfl ?_ | refine g_nil ?_ | refine gq_then ?_ | refine gc_seq ?_ | refine gc_region ?_ | refine gc_ret ?_ | refine g_box rfl rfl (fun _ => ?_))
  rename_i b1
  exact gq_ret1 (.inr rfl) rfl rfl rfl (fun w' H => ⟨b1, trivial, rfl, H⟩)
set_option maxHeartbeats 4000000 in
theorem lines1_sp {Y : Type} (b1 l : Nat) (ls : List (List Bs)) (St : Nat → Y → Prop) (Am : Y → HL) (y0 : Y) (w : World) (hok : ∀ W ∈ ls, okW W) (hsz : (txt ls).length ≤ 1000000000)
    (hE0 : Eff w (Am y0 ++ [(b1, .cells ⟨[.string (mkB (txt ls))]⟩ 9 (0, 0))]) w (Am y0 ++ [(b1, .cells ⟨[.string (mkB (txt ls))]⟩ 9 (0, 0))]))
    (hm : M0 (exc w (Am y0 ++ [(b1, .cells ⟨[.string (mkB (txt ls))]⟩ 9 (0, 0))]))) (h0 : St 0 y0)
    (hround : ∀ (k : Nat) (W : List Bs) (y : Y) (w' : World), ls[k]? = some W → St k y → M0 (exc w' (Am y)) → Eff w' (Am y) w' (Am y) → Yp Tryz.prog l [.string (mkB (lnB W))] w' (Am y) (fun _ : Y => .bool true) (fun y' => [Am y']) (fun y' => St (k + 1) y')) :
    Sp Tryz.prog 109 [.func (.yield l) #[] #[], .pointer (some ⟨b1, 0, none⟩)] w (Am y0 ++ [(b1, .cells ⟨[.string (mkB (txt ls))]⟩ 9 (0, 0))]) (fun _ : Y => .tuple #[])
      (fun y => [Am y ++ [(b1, .cells ⟨[.string (mkB (txt (ls.drop ls.length)))]⟩ 9 (0, 0))]]) (fun y => St ls.length y) := by
  refine enterA (s := Tryz.sx) [Am y0, [(b1, .cells ⟨[.string (mkB (txt ls))]⟩ 9 (0, 0))]] (by simp) Tryz.func109 rfl rfl rfl hE0 ?_
  repeat' (refine gc_block ?_)
  refine gc_loop (Y := Nat × Y) (fun y => y.1 ≤ ls.length ∧ St y.1 y.2) (fun y => [(0, .func (.yield l) #[] #[]), (1, .pointer (some ⟨b1, 0, none⟩))]) (fun y => [Am y.2, [(b1, .cells ⟨[.string (mkB (txt (ls.drop y.1)))]⟩ 9 (0, 0))]])
    (fun y => ls.length - y.1) (0, y0) ⟨Nat.zero_le _, h0⟩ ⟨rfl, rfl, trivial⟩ (fun w' H => H) ?_
  rintro ⟨k, y⟩ ⟨hk, hst⟩
  try dsimp only at hk hst ⊢
  repeat' (first | refine g_pv rfl rfl ?_ | refine g_ld 1 rfl rfl rfl rfl rfl rfl ?_ | refine g_nil ?_ | refine gq_then ?_ | refine gc_seq ?_ | refine gc_region ?_)
  refine gc_condC rfl (fun hc => ?_) (fun hc => ?_)
  · have hlt : k < ls.length := by
      rcases Nat.lt_or_ge k ls.length with h | h
      · exact h
      · rw [List.drop_of_length_le h] at hc
        simp [txt, mkB] at hc
        exact absurd hc (by decide)
    have hget : ls[k]? = some ls[k] := List.getElem?_eq_getElem hlt
    have hd : txt (ls.drop k) = Lib.join ls[k] [32] ++ 10 :: txt (ls.drop (k + 1)) := by
      rw [List.drop_eq_getElem_cons hlt]; show lnB _ ++ txt _ = _; unfold lnB; rw [List.append_assoc]; rfl
    have hokW := hok _ (List.getElem_mem hlt)
    have hle : (txt (ls.drop k)).length ≤ 1000000000 := by
      have : txt ls = txt (ls.take k) ++ txt (ls.drop k) := by rw [← txt_app, List.take_append_drop]
      rw [this, List.length_append] at hsz; omega
    generalize ls[k] = W at hget hd hokW
    have hib : Lib.indexByte (mkB (txt (ls.drop k))).data.toList ((10 : Int).toNat.toUInt8) = ((Lib.join W [32]).length : Int) := by
      show Lib.indexByte (txt (ls.drop k)) 10 = _
      rw [hd]; exact ib_hit 10 _ _ (join_ne10 hokW)
    have hdl : (txt (ls.drop k)).length = (Lib.join W [32]).length + 1 + (txt (ls.drop (k + 1))).length := by rw [hd, List.length_append, List.length_cons]; omega
    have hms := mkB_size (txt (ls.drop k))
    repeat' (first | refine g_pv rfl rfl ?_ | refine g_ld 1 rfl rfl rfl rfl rfl rfl ?_ | refine g_nil ?_ | refine gq_then ?_ | refine gc_seq ?_ | refine gc_region ?_ | refine gc_block ?_ | refine gc_skip ?_)
    refine g_call rfl (Cl.of Tryz.func110 rfl rfl) rfl rfl (fun w' hE => ibyte_sp _ _ w') rfl (fun _ _ => ?_)
    refine g_eq 9 (u' := .int .i64 ((Lib.join W [32]).length : Int)) rfl (congrArg (Value.int .i64) hib) ?_
    repeat' (first | refine g_pv rfl rfl ?_ | refine g_nil ?_ | refine gq_then ?_ | refine gc_seq ?_ | refine gc_region ?_ | refine gc_cond_t rfl ?_)
    have hlW : (lnB W).length = (Lib.join W [32]).length + 1 := lnB_len W
    have hdd : txt (ls.drop k) = lnB W ++ txt (ls.drop (k + 1)) := by rw [hd]; unfold lnB; rw [List.append_assoc]; rfl
    have hx1 : (mkB (txt (ls.drop k))).extract 0 ((((Lib.join W [32]).length + 1 : Nat) : Int)).toNat = mkB (lnB W) := mkB_of (by
      unfold bytesL; rw [Lib.extract_from_zero, Int.toNat_natCast]; show (txt (ls.drop k)).take _ = _; rw [hdd, ← hlW, List.take_left])
    have hx2 : (mkB (txt (ls.drop k))).extract ((((Lib.join W [32]).length + 1 : Nat) : Int)).toNat (mkB (txt (ls.drop k))).size = mkB (txt (ls.drop (k + 1))) := mkB_of (by
      unfold bytesL; rw [Lib.extract_to_end, Int.toNat_natCast]; show (txt (ls.drop k)).drop _ = _; rw [hdd, ← hlW, List.drop_left])
    have hw1 : IntKind.i64.wrap (((Lib.join W [32]).length : Int) + 1) = (((Lib.join W [32]).length + 1 : Nat) : Int) := by rw [IntKind.wrap_i64]; omega
    refine gc_draw [Am y, [(b1, .cells ⟨[.string (mkB (txt (ls.drop k)))]⟩ 9 (0, 0))]] [] rfl (List.Perm.of_eq (by simp)) ?_
    (refine aP 1 rfl rfl ?_); (refine aP 2 rfl rfl ?_)
    refine ga_eq 14 (u' := .int .i64 (((Lib.join W [32]).length + 1 : Nat) : Int)) rfl (congrArg (Value.int .i64) hw1) ?_
    (refine aP 5 rfl rfl ?_); (refine aP 6 rfl rfl ?_)
    refine ga_eq 18 (u' := .int .i64 (((Lib.join W [32]).length + 1 : Nat) : Int)) rfl (congrArg (Value.int .i64) hw1) ?_
    (refine aL 0 1 rfl wanted_none rfl rfl rfl rfl rfl ?_)
    (refine aL 4 1 rfl wanted_none rfl rfl rfl rfl rfl ?_)
    refine aQ 3 rfl (p_strTo rfl rfl rfl (Int.natCast_nonneg _) (by rw [hms]; omega)) ?_
    refine ga_eq 15 (u' := .string (mkB (lnB W))) rfl (congrArg Value.string hx1) ?_
    refine aQ 7 rfl (p_strFrom rfl rfl rfl (Int.natCast_nonneg _) (by rw [hms]; omega)) ?_
    refine ga_eq 19 (u' := .string (mkB (txt (ls.drop (k + 1))))) rfl (congrArg Value.string hx2) ?_
    (refine aP 8 rfl rfl ?_)
    refine ga_one (i := 9) (by kernel_rfl) (gs_last rfl (by kernel_rfl) (by kernel_rfl) (fun K hK => ?_))
    refine g_st 1 rfl rfl rfl rfl rfl rfl rfl ?_
    refine g_nil ?_
    refine hK _ _ ?_
    repeat' (first | refine g_pv rfl rfl ?_ | refine gq_then ?_ | refine gc_seq ?_ | refine gc_region ?_)
    have hmk : ∀ w', Hp ⟨Tryz.sx, none, 0, Tryz.f109.ntmps, [], w, Am y0 ++ [(b1, .cells ⟨[.string (mkB (txt ls))]⟩ 9 (0, 0))]⟩ w' [Am y, [(b1, .cells ⟨[.string (mkB (txt (ls.drop (k + 1))))]⟩ 9 (0, 0))]] → M0 (exc w' (Am y)) := fun w' H => by
      have h1 := hm.le (exc_le (A' := Am y ++ [(b1, .cells ⟨[.string (mkB (txt (ls.drop (k + 1))))]⟩ 9 (0, 0))]) (by simpa [Hp] using H))
      exact h1.le exc_app
    refine g_yield rfl rfl rfl rfl rfl (fun w' hE => hround k W y w' hget hst (hmk w' hE) (hp_eff hE)) rfl (fun y' hy' => ?_)
    repeat' (first | refine g_pv rfl rfl ?_ | refine g_nil ?_ | refine gq_then ?_ | refine gc_cond_f rfl ?_ | refine gc_skip ?_ | refine gq_block ?_)
    exact gq_again (k + 1, y') ⟨hlt, hy'⟩ (by simp only; omega) ⟨rfl, rfl, trivial⟩ (fun w' H => H)
  · have hge : k = ls.length := by
      rcases Nat.lt_or_ge k ls.length with h | h
      · have hd : txt (ls.drop k) = lnB ls[k] ++ txt (ls.drop (k + 1)) := by
          rw [List.drop_eq_getElem_cons h]; rfl
        have hms := mkB_size (txt (ls.drop k))
        have h1 := of_decide_eq_false hc
        rw [hms, hd, List.length_append, lnB_len] at h1
        omega
      · omega
    subst hge
    repeat' (first | refine gc_exit ?_ | refine gq_then_exit ?_ | refine gq_block_exit ?_)
    exact gq_ret0 (.inl rfl) rfl rfl (fun w' H => ⟨y, hst, rfl, by simpa [Hp] using H⟩)
end Go.Proofs.YtpohhfggmaihpaaGreatDoor

/- tac's read: a round for each line. -/
namespace Go.Proofs.YtpohhfggmaihpaaGreatDoor
open Go.Wk
set_option linter.unusedVariables false
set_option linter.unusedSimpArgs false
attribute [local irreducible] G GC GQ GA GS Exit.then Exit.inBlock

theorem er_obs {p : Pr} {pre : List Ob} {o : Ob} (h : p.er.obs = pre ++ [o]) : ∃ pre o, p.obs = pre ++ [o] := by
  rcases List.eq_nil_or_concat p.obs with h1 | ⟨q, x, h1⟩
  · simp [Pr.er, h1] at h
  · exact ⟨q, x, by rw [h1, List.concat_eq_append]⟩
theorem er_fns {p : Pr} {pre : List Fn} {o : Fn} (h : p.er.fns = pre ++ [o]) : ∃ pre o, p.fns = pre ++ [o] := by
  rcases List.eq_nil_or_concat p.fns with h1 | ⟨q, x, h1⟩
  · simp [Pr.er, h1] at h
  · exact ⟨q, x, by rw [h1, List.concat_eq_append]⟩
theorem er_last {p : Pr} {pre pre' : List Ob} {o o' : Ob} (h : p.er.obs = pre ++ [o]) (h' : p.obs = pre' ++ [o']) : o = o'.er := by
  have e : p.er.obs = pre'.map Ob.er ++ [o'.er] := by simp [Pr.er, h']
  exact (snoc_inj (h.symm.trans e)).2
theorem sml_er {p : Pr} (h : Sml p.er) : Sml p := by
  obtain ⟨h1, h2, h3, h4⟩ := h
  refine ⟨by simpa [Pr.er] using h1, by simpa [Pr.er] using h2, fun o ho => ?_, fun f hf => ?_⟩
  · simpa [Ob.er] using h3 o.er (List.mem_map.2 ⟨o, ho, rfl⟩)
  · simpa [Fn.er] using h4 f.er (List.mem_map.2 ⟨f, hf, rfl⟩)
/-- A round, whatever its line. -/
theorem round_all (ℓ : Ln) (l : Nat) (r : Obj) (b2 : Nat) (w : World) (A : HL) (pr : Pr) (Ao Af Bb Br Bs Bc E : HL) (Q : Post) (B : Bd pr Ao Af Bb Br Bs Bc E) (hm : M0 (Oldh (XR l w A))) (hQ : NoP Q) (hk : okS ℓ pr.er)
    (hlen : (Lib.join (Ln.words ℓ) [32]).length ≤ 1000000000) (kk : Left ℓ l r b2 w A pr Q) : GC (XR l w A) bodyC Q [(2, .pointer (some ⟨b2, 0, none⟩)), (4, .string (mkB (lnB (Ln.words ℓ))))] (FF l r b2 pr Ao Af Bb Br Bs Bc E) := by
  obtain ⟨h, hZ, hok⟩ := hk
  have hZ := sml_er hZ
  cases ℓ with
  | ob nm size al =>
    obtain ⟨h1, h2, h3⟩ := h
    obtain ⟨n, rfl⟩ : ∃ n : Nat, size = n := ⟨size.toNat, by omega⟩
    exact round_ob nm n al l r b2 w A pr Ao Af Bb Br Bs Bc E Q B hm (by unfold sm; omega) (by omega) h3 hZ hok hlen kk
  | da bs =>
    obtain ⟨h1, pre, o, h2, h3, h4⟩ := h
    refine round_da bs l r b2 w A pr Ao Af Bb Br Bs Bc E Q B hm hQ hZ (er_obs h2) h1 (fun pre' o' h' => ?_) hok hlen kk
    have e := er_last h2 h'
    rw [e] at h3 h4
    exact ⟨h3, Nat.le_trans h4 (by decide)⟩
  | re rl =>
    obtain ⟨h1, h2, h3, pre, o, h4⟩ := h
    exact round_re rl l r b2 w A pr Ao Af Bb Br Bs Bc E Q B hm hQ hZ (er_obs h4) h1 h2 h3 hok hlen kk
  | fu nm pa te gi =>
    obtain ⟨h1, h2⟩ := h
    cases gi
    · exact round_fu0 nm pa te l r b2 w A pr Ao Af Bb Br Bs Bc E Q B hm h1 h2 hZ hok hlen kk
    · exact round_fu1 nm pa te l r b2 w A pr Ao Af Bb Br Bs Bc E Q B hm h1 h2 hZ hok hlen kk
  | ma n => exact round_ma n l r b2 w A pr Ao Af Bb Br Bs Bc E Q B hm h hlen kk
  | sl s =>
    obtain ⟨h1, h2, pre, f, h3⟩ := h
    exact round_sl s l r b2 w A pr Ao Af Bb Br Bs Bc E Q B hm hQ hZ (er_fns h3) h1 h2 hok hlen kk
  | ins x =>
    obtain ⟨h1, h2, h3, h4, pre, f, h5⟩ := h
    exact round_in x l r b2 w A pr Ao Af Bb Br Bs Bc E Q B hm hQ hZ (er_fns h5) h1 h2 h3 h4 hok hlen kk
/-- What a reading holds. -/
structure RS where
  pr : Pr
  Ao : HL
  Af : HL
  Bb : HL
  Br : HL
  Bs : HL
  Bc : HL
  E : HL
def RS.ok (y : RS) : Prop := Bd y.pr y.Ao y.Af y.Bb y.Br y.Bs y.Bc y.E
def RS.mem (b2 : Nat) (y : RS) : HL := (b2, .cells ⟨y.pr.cells⟩ 25 (0, 0)) :: (y.Ao ++ (y.Af ++ (y.Bb ++ (y.Br ++ (y.Bs ++ (y.Bc ++ y.E))))))
def RS.rest (y : RS) : RL := [y.Ao, y.Af, y.Bb, y.Br, y.Bs, y.Bc, y.E]
theorem ff_flat (l : Nat) (r : Obj) (b2 : Nat) (y : RS) : (FF l r b2 y.pr y.Ao y.Af y.Bb y.Br y.Bs y.Bc y.E).flatten = (l, r) :: y.mem b2 := by simp [FF, RS.mem]
noncomputable def asgC : Code := match Tryz.f42.body with
  | some (.seq _ (.seq _ (.seq (.seq _ (.block _ (.rangeFunc _ _ c _))) _))) => c
  | _ => .skip
theorem kn1 {tm : Array Value} {L : LT} (h : Kn { tmps := tm, defers := [] } L) {i : Nat} (hi : i < tm.size) (u : Value) :
    Kn { tmps := ((#[i] : Array Tmp).zip [u].toArray).foldl (fun t (q : Tmp × Value) => t.setIfInBounds q.1 q.2) tm, defers := [] } ((i, u) :: L) := by
  have h1 := Kn.put (a := { tmps := tm, defers := [] }) h (d := i) hi u
  simpa [Act.put] using h1
theorem read_round (b2 l D : Nat) (fn : FuncId) (tm : Array Value) (y : RS) (ℓ : Ln) (w : World) (L : LT) (hE : Eff w ((l, rec fn tm #[14] asgC bodyC D .ready none) :: y.mem b2) w ((l, rec fn tm #[14] asgC bodyC D .ready none) :: y.mem b2))
    (htm : tm.size = Tryz.f42.ntmps) (hkn : Kn { tmps := tm, defers := [] } L) (h2 : lk L 2 = some (.pointer (some ⟨b2, 0, none⟩))) (hB : y.ok) (hm : M0 (exc w ((l, rec fn tm #[14] asgC bodyC D .ready none) :: y.mem b2))) (hk : okS ℓ y.pr.er) (hlen : (Lib.join (Ln.words ℓ) [32]).length ≤ 1000000000) :
    Yp Tryz.prog l [.string (mkB (lnB (Ln.words ℓ)))] w ((l, rec fn tm #[14] asgC bodyC D .ready none) :: y.mem b2) (fun _ : RS => .bool true) (fun y' => [(l, rec fn tm #[14] asgC bodyC D .ready none) :: y'.mem b2]) (fun y' => y'.ok ∧ y'.pr.er = ℓ.app y.pr.er) := by
  have h2' : lk ((14, .string (mkB (lnB (Ln.words ℓ)))) :: L) 2 = some (.pointer (some ⟨b2, 0, none⟩)) := h2
  refine round_sp (N := Tryz.f42.ntmps) (s := Tryz.sx) (A := y.mem b2) (B := []) (A' := fun y' : RS => y'.mem b2) hE rfl htm (kn1 hkn (by rw [htm]; show 14 < 174; decide) _) ?_
  refine gc_sub (L' := [(2, .pointer (some ⟨b2, 0, none⟩)), (14, .string (mkB (lnB (Ln.words ℓ))))]) ⟨h2', rfl, trivial⟩ ?_
  repeat' (first | refine g_pv rfl rfl ?_ | refine g_nil ?_ | refine gc_region ?_)
  refine gq_begin rfl ?_
  refine gc_sub (L' := [(2, .pointer (some ⟨b2, 0, none⟩)), (4, .string (mkB (lnB (Ln.words ℓ))))]) ⟨rfl, rfl, trivial⟩ ?_
  refine gc_heap (R' := FF l (rec fn tm #[14] asgC bodyC D .busy none) b2 y.pr y.Ao y.Af y.Bb y.Br y.Bs y.Bc y.E) (fun w' H => hp_flat (by rw [ff_flat]; simp) H) ?_
  refine round_all ℓ l (rec fn tm #[14] asgC bodyC D .busy none) b2 w _ y.pr y.Ao y.Af y.Bb y.Br y.Bs y.Bc y.E _ hB hm (fun c a w h => h) hk hlen ?_
  intro pr' Ao Af Bb Br Bs Bc E hB' her
  exact gq_endRound rfl (⟨pr', Ao, Af, Bb, Br, Bs, Bc, E⟩ : RS) ⟨hB', her⟩ (fun w' H => hp_flat (by simp [RS.mem]) H)
end Go.Proofs.YtpohhfggmaihpaaGreatDoor

/- tac's read, walked. -/
namespace Go.Proofs.YtpohhfggmaihpaaGreatDoor
open Go.Wk
set_option linter.unusedVariables false
set_option linter.unusedSimpArgs false
attribute [local irreducible] G GC GQ GA GS Exit.then Exit.inBlock

theorem nopanic_sp (b2 b3 : Nat) (w : World) (R' : Ending → FrameMode → World → Prop) (k : ∀ w', Eff w [] w' [] → R' (.returned (.tuple #[])) .returning w') :
    CallsDIn Fence.wide 0 Tryz.prog 65 [.pointer (some ⟨b2, 0, none⟩), .pointer (some ⟨b3, 0, none⟩)].toArray .returning w R' := by
  refine recover_calm (s := Tryz.sx) (R := []) (N := Tryz.f65.ntmps) Tryz.func65 rfl rfl rfl rfl (Eff.refl w) (fun c₀ cs hm => ?_)
  repeat' (first | refine gc_seq ?_ | refine gc_region ?_ | refine gc_block ?_)
  refine g_p (p_eqI rfl rfl) rfl ?_
  repeat' (first | refine g_pv rfl rfl ?_ | refine g_nil ?_ | refine gq_then ?_ | refine gc_region ?_ | refine gc_cond_t rfl ?_ | refine gq_block ?_)
  exact gq_rec0 (R0 := []) (.inl rfl) hm rfl (fun w' H => k w' H)
theorem lnB_le {ls : List (List Bs)} {W : List Bs} (h : W ∈ ls) : (lnB W).length ≤ (txt ls).length := by
  obtain ⟨a, b, rfl⟩ := List.append_of_mem h
  rw [txt_app, List.length_append]
  show _ ≤ _ + (lnB W ++ txt b).length
  rw [List.length_append]; omega
theorem bd0 : Bd pr0 [] [] [] [] [] [] [] where
  o := OwnL.nil _ _ _
  f := OwnL.nil _ _ _
  oE := fun pre o h => by simp [pr0] at h
  oL := fun pre o h => by simp [pr0] at h
  fE := fun pre o h => by simp [pr0] at h
  fL := fun pre o h => by simp [pr0] at h
set_option maxHeartbeats 4000000 in
theorem read_sp (L : List Ln) (w : World) (hok : okR L pr0) (hlen : (txt (L.map Ln.words)).length ≤ 1048576) (hm : M0 (hw w)) :
    Sp Tryz.prog 42 [.string (mkB (txt (L.map Ln.words)))] w [] (fun y : RS => .tuple #[y.pr.val, .bool true]) (fun y => y.rest) (fun y => y.ok ∧ y.pr.er = rd L pr0) := by
  refine enterM (s := Tryz.sx) [] rfl Tryz.func42 rfl rfl rfl (Eff.refl w) ?_
  repeat' (first | refine g_pv rfl rfl ?_ | refine g_nil ?_ | refine gq_then ?_ | refine gc_seq ?_ | refine gc_region ?_ | refine g_alloc rfl rfl (fun _ => ?_))
  rename_i b2 b3
  refine g_defer rfl rfl ?_
  repeat' (first | refine g_pv rfl rfl ?_ | refine g_nil ?_ | refine gq_then ?_ | refine gc_seq ?_ | refine gc_region ?_)
  refine g_call rfl (Cl.of Tryz.func66 rfl rfl) rfl rfl (fun w' hE => lines_sp _ w') rfl (fun bx _ => ?_)
  repeat' (first | refine g_nil ?_ | refine gq_then ?_ | refine gc_block ?_)
  let y0 : RS := ⟨pr0, [], [], [], [], [], [], []⟩
  refine gc_heap (R' := [[(bx, .cells ⟨[.string (mkB (txt (L.map Ln.words)))]⟩ 9 (0, 0))], [(b3, .cells ⟨[.bool false]⟩ 4 (0, 0))], [(b2, .cells ⟨[.slice none 0 0, .slice none 0 0, .int .i64 0]⟩ 25 (0, 0))]]) (fun w' H => H) ?_
  refine gc_heap (R' := (y0.mem b2 ++ [(bx, .cells ⟨[.string (mkB (txt (L.map Ln.words)))]⟩ 9 (0, 0))]) :: [[(b3, .cells ⟨[.bool false]⟩ 4 (0, 0))]]) (fun w' H => hp_cnt [] H (fun a => by simp only [y0, RS.mem, pr0, Pr.cells, List.length_nil, Value.cells, List.cons_append, List.nil_append, List.flatten_append, List.flatten_cons, List.flatten_nil, List.count_append, List.count_cons, List.count_nil, List.append_nil]; omega)) ?_
  refine gc_range (Y := RS) (post := fun y => y.ok ∧ y.pr.er = rd L pr0) (A' := fun y => y.mem b2 ++ [(bx, .cells ⟨[.string (mkB (txt ((L.map Ln.words).drop (L.map Ln.words).length)))]⟩ 9 (0, 0))]) rfl rfl rfl rfl (Cl.of Tryz.func109 rfl rfl) (fun l D fn tm w1 htm hkn hE => ?_) (fun D y hy => ?_)
  · refine Calls.mono (lines1_sp (Y := RS) bx l (L.map Ln.words) (fun k y => y.ok ∧ y.pr.er = rd (L.take k) pr0) (fun y => (l, rec fn tm #[14] asgC bodyC D .ready none) :: y.mem b2) y0 w1 (fun W hW => ?_) (by omega) (hp_eff hE) (hm.le (fun b o h => hp_excO hE (old_le0 _ w b o h))) ⟨bd0, rfl⟩ ?_) ?_
    · obtain ⟨k, hk⟩ := List.getElem?_of_mem hW
      rw [List.getElem?_map] at hk
      obtain ⟨ℓ, hℓ, rfl⟩ := Option.map_eq_some_iff.1 hk
      exact (okR_at hok hℓ).2.2
    · rintro k W y w2 hW ⟨hy, her⟩ hm2 hE2
      rw [List.getElem?_map] at hW
      obtain ⟨ℓ, hℓ, rfl⟩ := Option.map_eq_some_iff.1 hW
      have hk := okR_at hok hℓ
      rw [← her] at hk
      have hl := lnB_le (ls := L.map Ln.words) (W := ℓ.words) (List.mem_map.2 ⟨ℓ, List.mem_of_getElem? hℓ, rfl⟩)
      rw [lnB_len] at hl
      have hr := read_round b2 l D fn tm y ℓ w2 _ hE2 htm hkn rfl hy hm2 hk (by omega)
      obtain ⟨f, t, a, b, h1, h2⟩ := hr
      refine ⟨f, t, a, b, h1, RoundIn.mono h2 (fun e w' ⟨y', hp, he, E⟩ => ⟨y', ⟨hp.1, ?_⟩, he, E⟩)⟩
      rw [hp.2, her, List.take_add_one, hℓ, rd_app]; rfl
    · rintro e w' ⟨y', ⟨h1, h2⟩, he, E⟩
      refine ⟨y', ⟨h1, ?_⟩, he, E⟩
      rw [List.length_map, List.take_length] at h2; exact h2
  · obtain ⟨hok', her⟩ := hy
    refine gq_hp (R' := [[(b2, .cells ⟨y.pr.cells⟩ 25 (0, 0))], [(b3, .cells ⟨[.bool false]⟩ 4 (0, 0))], [(D, .deferred (some []))]] ++ y.rest) (fun w' H => hp_cnt [(bx, .cells ⟨[.string (mkB (txt ((L.map Ln.words).drop (L.map Ln.words).length)))]⟩ 9 (0, 0))] H (fun a => by simp only [RS.mem, RS.rest, List.cons_append, List.nil_append, List.flatten_append, List.flatten_cons, List.flatten_nil, List.count_append, List.count_cons, List.count_nil, List.append_nil]; omega)) ?_
    repeat' (first | refine g_ld 0 rfl rfl rfl rfl rfl rfl ?_ | refine g_nil ?_ | refine gq_then ?_ | refine gc_seq ?_ | refine gc_region ?_ | refine gc_ret ?_ | refine gq_block ?_ | refine g_st 0 rfl rfl rfl rfl rfl rfl rfl ?_ | refine g_st 1 rfl rfl rfl rfl rfl rfl rfl ?_)
    refine gq_retCC (.inr rfl) (D := D) (F := [[(b2, .cells ⟨y.pr.cells⟩ 25 (0, 0))], [(b3, .cells ⟨[.bool true]⟩ 4 (0, 0))]] ++ y.rest) rfl (fun w' H => ?_) (Cl.of Tryz.func65 rfl rfl) (fun w' H => nopanic_sp b2 b3 w' _ (fun w'' E => ⟨rfl, rfl, Eff.seq0 H E⟩)) rfl 0 1 rfl rfl rfl rfl rfl rfl rfl rfl rfl rfl (fun w' H => ⟨y, ⟨hok', her⟩, rfl, (by have h3 := hp_tail (hp_tail H); exact h3)⟩)
    have H' : Hp _ w' ([[(b2, .cells ⟨y.pr.cells⟩ 25 (0, 0))], [(b3, .cells ⟨[.bool true]⟩ 4 (0, 0))], [(D, .deferred (some []))]] ++ y.rest) := H
    exact hp_cnt [] H' (fun a => by simp only [RS.rest, List.cons_append, List.nil_append, List.flatten_append, List.flatten_cons, List.flatten_nil, List.count_append, List.count_cons, List.count_nil, List.append_nil]; omega)
end Go.Proofs.YtpohhfggmaihpaaGreatDoor

/- The document's power, temp, arg, none, same, digit, letter. -/
namespace Go.Proofs.YtpohhfggmaihpaaGreatDoor
open Go.Wk
set_option linter.unusedVariables false
set_option linter.unusedSimpArgs false
attribute [local irreducible] G GC GQ GA GS Exit.then Exit.inBlock

set_option maxHeartbeats 4000000 in
theorem rsame_sp (x y : Ins) (w : World) : Sp Tryz.prog 102 [x.val, y.val] w [] (fun b : Bool => .bool b) (fun _ => []) (fun b => b = alikeB x y) := by
  refine enter (s := Tryz.sx) [] Tryz.func102 rfl rfl rfl (Eff.refl w) ?_
  repeat' (first | refine g_pv rfl rfl ?_ | refine g_ld 0 rfl rfl rfl rfl rfl rfl ?_ | refine g_ld 1 rfl rfl rfl rfl rfl rfl ?_ | refine g_nil ?_ | refine gq_then ?_ | refine gc_seq ?_ | refine gc_region ?_ | refine g_box rfl rfl (fun _ => ?_))
  refine g_case (t := 10) rfl (fun h0 => ?_) (fun h0 => ?_)
  rotate_left
  · repeat' (first | refine g_pv rfl rfl ?_ | refine g_nil ?_ | refine gq_then ?_ | refine gc_ret ?_ | refine g_no rfl rfl rfl rfl rfl ?_)
    refine gq_ret1 (.inr rfl) rfl rfl rfl (fun w' H => ⟨false, ?_, rfl, hp_nil H⟩)
    unfold alikeB; rw [h0]; rfl
  repeat' (first | refine g_pv rfl rfl ?_ | refine g_ld 0 rfl rfl rfl rfl rfl rfl ?_ | refine g_ld 1 rfl rfl rfl rfl rfl rfl ?_ | refine g_yes rfl rfl rfl ?_)
  refine g_case (t := 17) rfl (fun h1 => ?_) (fun h1 => ?_)
  rotate_left
  · repeat' (first | refine g_pv rfl rfl ?_ | refine g_nil ?_ | refine gq_then ?_ | refine gc_ret ?_ | refine g_no rfl rfl rfl rfl rfl ?_)
    refine gq_ret1 (.inr rfl) rfl rfl rfl (fun w' H => ⟨false, ?_, rfl, hp_nil H⟩)
    unfold alikeB; rw [h0, h1]; rfl
  repeat' (first | refine g_pv rfl rfl ?_ | refine g_ld 0 rfl rfl rfl rfl rfl rfl ?_ | refine g_ld 1 rfl rfl rfl rfl rfl rfl ?_ | refine g_yes rfl rfl rfl ?_)
  refine g_case (t := 24) rfl (fun h2 => ?_) (fun h2 => ?_)
  rotate_left
  · repeat' (first | refine g_pv rfl rfl ?_ | refine g_nil ?_ | refine gq_then ?_ | refine gc_ret ?_ | refine g_no rfl rfl rfl rfl rfl ?_)
    refine gq_ret1 (.inr rfl) rfl rfl rfl (fun w' H => ⟨false, ?_, rfl, hp_nil H⟩)
    unfold alikeB; rw [h0, h1, h2]; rfl
  repeat' (first | refine g_pv rfl rfl ?_ | refine g_ld 0 rfl rfl rfl rfl rfl rfl ?_ | refine g_ld 1 rfl rfl rfl rfl rfl rfl ?_ | refine g_yes rfl rfl rfl ?_)
  refine g_p (p_eqA (L := _) rfl rfl rfl rfl rfl (by kernel_rfl)) rfl ?_
  repeat' (refine g_pv rfl rfl ?_)
  refine g_case (t := 31) rfl (fun h3 => ?_) (fun h3 => ?_)
  rotate_left
  · repeat' (first | refine g_pv rfl rfl ?_ | refine g_nil ?_ | refine gq_then ?_ | refine gc_ret ?_ | refine g_no rfl rfl rfl rfl rfl ?_)
    refine gq_ret1 (.inr rfl) rfl rfl rfl (fun w' H => ⟨false, ?_, rfl, hp_nil H⟩)
    unfold alikeB; rw [h0, h1, h2, h3]; rfl
  repeat' (first | refine g_pv rfl rfl ?_ | refine g_ld 0 rfl rfl rfl rfl rfl rfl ?_ | refine g_ld 1 rfl rfl rfl rfl rfl rfl ?_ | refine g_yes rfl rfl rfl ?_)
  refine g_p (p_eqA (L := _) rfl rfl rfl rfl rfl (by kernel_rfl)) rfl ?_
  repeat' (refine g_pv rfl rfl ?_)
  refine g_case (t := 38) rfl (fun h4 => ?_) (fun h4 => ?_)
  rotate_left
  · repeat' (first | refine g_pv rfl rfl ?_ | refine g_nil ?_ | refine gq_then ?_ | refine gc_ret ?_ | refine g_no rfl rfl rfl rfl rfl ?_)
    refine gq_ret1 (.inr rfl) rfl rfl rfl (fun w' H => ⟨false, ?_, rfl, hp_nil H⟩)
    unfold alikeB; rw [h0, h1, h2, h3, h4]; rfl
  repeat' (first | refine g_pv rfl rfl ?_ | refine g_ld 0 rfl rfl rfl rfl rfl rfl ?_ | refine g_ld 1 rfl rfl rfl rfl rfl rfl ?_ | refine g_yes rfl rfl rfl ?_)
  refine g_case (t := 45) rfl (fun h5 => ?_) (fun h5 => ?_)
  rotate_left
  · repeat' (first | refine g_pv rfl rfl ?_ | refine g_nil ?_ | refine gq_then ?_ | refine gc_ret ?_ | refine g_no rfl rfl rfl rfl rfl ?_)
    refine gq_ret1 (.inr rfl) rfl rfl rfl (fun w' H => ⟨false, ?_, rfl, hp_nil H⟩)
    unfold alikeB; rw [h0, h1, h2, h3, h4, h5]; rfl
  repeat' (first | refine g_pv rfl rfl ?_ | refine g_ld 0 rfl rfl rfl rfl rfl rfl ?_ | refine g_ld 1 rfl rfl rfl rfl rfl rfl ?_ | refine g_yes rfl rfl rfl ?_)
  refine g_case (t := 52) rfl (fun h6 => ?_) (fun h6 => ?_)
  rotate_left
  · repeat' (first | refine g_pv rfl rfl ?_ | refine g_nil ?_ | refine gq_then ?_ | refine gc_ret ?_ | refine g_no rfl rfl rfl rfl rfl ?_)
    refine gq_ret1 (.inr rfl) rfl rfl rfl (fun w' H => ⟨false, ?_, rfl, hp_nil H⟩)
    unfold alikeB; rw [h0, h1, h2, h3, h4, h5, h6]; rfl
  repeat' (first | refine g_pv rfl rfl ?_ | refine g_ld 0 rfl rfl rfl rfl rfl rfl ?_ | refine g_ld 1 rfl rfl rfl rfl rfl rfl ?_ | refine g_yes rfl rfl rfl ?_)
  refine g_case (t := 59) rfl (fun h7 => ?_) (fun h7 => ?_)
  rotate_left
  · repeat' (first | refine g_pv rfl rfl ?_ | refine g_nil ?_ | refine gq_then ?_ | refine gc_ret ?_ | refine g_no rfl rfl rfl rfl rfl ?_)
    refine gq_ret1 (.inr rfl) rfl rfl rfl (fun w' H => ⟨false, ?_, rfl, hp_nil H⟩)
    unfold alikeB; rw [h0, h1, h2, h3, h4, h5, h6, h7]; rfl
  repeat' (first | refine g_pv rfl rfl ?_ | refine g_ld 0 rfl rfl rfl rfl rfl rfl ?_ | refine g_ld 1 rfl rfl rfl rfl rfl rfl ?_ | refine g_yes rfl rfl rfl ?_)
  refine g_p (p_eqB rfl rfl rfl) rfl ?_
  repeat' (first | refine g_pv rfl rfl ?_ | refine g_nil ?_ | refine gq_then ?_ | refine gc_ret ?_)
  refine gq_ret1 (.inr rfl) rfl rfl rfl (fun w' H => ⟨x.signed == y.signed, ?_, rfl, hp_nil H⟩)
  unfold alikeB; rw [h0, h1, h2, h3, h4, h5, h6, h7]; rfl
end Go.Proofs.YtpohhfggmaihpaaGreatDoor

/- The document's Word and Tag. -/
namespace Go.Proofs.YtpohhfggmaihpaaGreatDoor
open Go.Wk
set_option linter.unusedVariables false
set_option linter.unusedSimpArgs false
attribute [local irreducible] G GC GQ GA GS Exit.then Exit.inBlock

end Go.Proofs.YtpohhfggmaihpaaGreatDoor

/- The document's Tag. -/
namespace Go.Proofs.YtpohhfggmaihpaaGreatDoor
open Go.Wk
set_option linter.unusedVariables false
set_option linter.unusedSimpArgs false
attribute [local irreducible] G GC GQ GA GS Exit.then Exit.inBlock

end Go.Proofs.YtpohhfggmaihpaaGreatDoor

/- The document's shape. -/
namespace Go.Proofs.YtpohhfggmaihpaaGreatDoor
open Go.Wk
set_option linter.unusedVariables false
set_option linter.unusedSimpArgs false
attribute [local irreducible] G GC GQ GA GS Exit.then Exit.inBlock

end Go.Proofs.YtpohhfggmaihpaaGreatDoor

/- The document's Same, Names, Name, call. -/
namespace Go.Proofs.YtpohhfggmaihpaaGreatDoor
open Go.Wk
set_option linter.unusedVariables false
set_option linter.unusedSimpArgs false
attribute [local irreducible] G GC GQ GA GS Exit.then Exit.inBlock

def argsEq : List Arg → List Arg → Bool
  | [], [] => true
  | a :: l, b :: m => (a.k == b.k && a.n == b.n) && argsEq l m
  | _, _ => false
theorem argsEq_refl : ∀ (l : List Arg), argsEq l l = true
  | [] => rfl
  | a :: l => by simp [argsEq, argsEq_refl l]
theorem argsEq_len : ∀ {l m : List Arg}, l.length ≠ m.length → argsEq l m = false
  | [], [], h => absurd rfl h
  | [], b :: m, _ => rfl
  | a :: l, [], _ => rfl
  | a :: l, b :: m, h => by
    simp only [argsEq]
    rw [argsEq_len (by simpa using h)]; simp
theorem argsEq_drop {l m : List Arg} {k : Nat} {a b : Arg} (h1 : l[k]? = some a) (h2 : m[k]? = some b) : argsEq (l.drop k) (m.drop k) = ((a.k == b.k && a.n == b.n) && argsEq (l.drop (k + 1)) (m.drop (k + 1))) := by
  obtain ⟨g1, e1⟩ := List.getElem?_eq_some_iff.1 h1
  obtain ⟨g2, e2⟩ := List.getElem?_eq_some_iff.1 h2
  rw [List.drop_eq_getElem_cons g1, List.drop_eq_getElem_cons g2, e1, e2]; rfl
def sameB (x y : Ins) : Bool := alikeB x y && argsEq x.args y.args
set_option maxHeartbeats 4000000 in
theorem rSame_sp (x y : Ins) (w : World) (hx : Rd (hw w) Arg.cells 2 x.aA x.args) (hy : Rd (hw w) Arg.cells 2 y.aA y.args) (hxl : x.args.length ≤ 8796093022000) : Sp Tryz.prog 55 [x.val, y.val] w [] (fun b : Bool => .bool b) (fun _ => []) (fun b => b = sameB x y) := by
  refine enter (s := Tryz.sx) [] Tryz.func55 rfl rfl rfl (Eff.refl w) ?_
  repeat' (first | refine g_pv rfl rfl ?_ | refine g_ld 0 rfl rfl rfl rfl rfl rfl ?_ | refine g_ld 1 rfl rfl rfl rfl rfl rfl ?_ | refine g_nil ?_ | refine gq_then ?_ | refine gc_seq ?_ | refine gc_region ?_ | refine g_box rfl rfl (fun _ => ?_))
  rename_i b2 b3
  refine g_call rfl (Cl.of Tryz.func102 rfl rfl) rfl rfl (fun w' hE => rsame_sp x y w') rfl ?_
  rintro t1 h1
  repeat' (refine g_pv rfl rfl ?_)
  cases t1
  · repeat' (first | refine g_pv rfl rfl ?_ | refine g_nil ?_ | refine gq_then ?_ | refine gc_seq ?_ | refine gc_region ?_ | refine gc_cond_t rfl ?_ | refine gc_ret ?_ | refine gq_then_ret ?_ | refine g_no rfl rfl rfl rfl rfl ?_)
    refine gq_ret1 (.inr rfl) rfl rfl rfl (fun w' H => ⟨false, ?_, rfl, hp_nil H⟩)
    unfold sameB; rw [← h1]; rfl
  repeat' (first | refine g_pv rfl rfl ?_ | refine g_ld 0 rfl rfl rfl rfl rfl rfl ?_ | refine g_ld 1 rfl rfl rfl rfl rfl rfl ?_ | refine g_nil ?_ | refine gq_then ?_ | refine g_yes rfl rfl rfl ?_)
  refine gc_condC rfl (fun h2 => ?_) (fun h2 => ?_)
  · repeat' (first | refine g_pv rfl rfl ?_ | refine g_nil ?_ | refine gq_then ?_ | refine gc_seq ?_ | refine gc_region ?_ | refine gc_ret ?_ | refine gq_then_ret ?_)
    refine gq_ret1 (.inr rfl) rfl rfl rfl (fun w' H => ⟨false, ?_, rfl, hp_nil H⟩)
    have h3 : x.args.length ≠ y.args.length := fun he => by
      rw [he] at h2; simp at h2
    unfold sameB; rw [argsEq_len h3]; simp
  have h3 : x.args.length = y.args.length := by
    have h4 : ((x.args.length : Int) == y.args.length) = true := by simpa using h2
    have := beq_iff_eq.1 h4; omega
  have hS : sameB x y = argsEq x.args y.args := by unfold sameB; rw [← h1]; rfl
  repeat' (first | refine g_pv rfl rfl ?_ | refine g_nil ?_ | refine gq_then ?_ | refine gc_seq ?_ | refine gc_region ?_ | refine gc_block ?_ | refine gc_skip ?_)
  refine gc_loop (Y := Nat) (fun k => k ≤ x.args.length ∧ argsEq x.args y.args = argsEq (x.args.drop k) (y.args.drop k))
    (fun k => [(2, .pointer (some ⟨b2, 0, none⟩)), (3, .pointer (some ⟨b3, 0, none⟩)), (5, .int .i64 k)])
    (fun k => [[(b3, .cells ⟨y.cells⟩ 43 (0, 0))], [(b2, .cells ⟨x.cells⟩ 43 (0, 0))]])
    (fun k => x.args.length - k) 0 ⟨Nat.zero_le _, rfl⟩ ⟨rfl, rfl, rfl, trivial⟩ (fun w' H => H) ?_
  rintro k ⟨hk, hR⟩
  dsimp only at hk hR ⊢
  repeat' (first | refine g_pv rfl rfl ?_ | refine g_ld 1 rfl rfl rfl rfl rfl rfl ?_ | refine g_nil ?_ | refine gq_then ?_ | refine gc_seq ?_ | refine gc_region ?_)
  refine gc_condC rfl (fun hc => ?_) (fun hc => ?_)
  rotate_left
  · have hge : k = x.args.length := by have := of_decide_eq_false hc; omega
    repeat' (first | refine g_pv rfl rfl ?_ | refine g_nil ?_ | refine gq_then ?_ | refine gc_seq ?_ | refine gc_region ?_ | refine gc_exit ?_ | refine gc_ret ?_ | refine gq_then_exit ?_ | refine gq_block_exit ?_)
    refine gq_ret1 (.inr rfl) rfl rfl rfl (fun w' H => ⟨true, ?_, rfl, hp_nil H⟩)
    rw [hS, hR, hge, List.drop_length, h3, List.drop_length]; rfl
  have hlt : k < x.args.length := by have := of_decide_eq_true hc; omega
  have hx1 : x.args[k]? = some (x.args[k]) := List.getElem?_eq_getElem hlt
  have hy1 : y.args[k]? = some (y.args[k]'(by omega)) := List.getElem?_eq_getElem (by omega)
  generalize x.args[k] = a at hx1
  generalize y.args[k]'(by omega) = b at hy1
  rw [argsEq_drop hx1 hy1] at hR
  repeat' (first | refine gq_then ?_ | refine gc_seq ?_ | refine gc_block ?_ | refine gc_skip ?_)
  refine gc_draw [[(b3, .cells ⟨y.cells⟩ 43 (0, 0))], [(b2, .cells ⟨x.cells⟩ 43 (0, 0))]] [] rfl (List.Perm.of_eq rfl) ?_
  (refine aP 0 rfl rfl ?_); (refine aL 1 1 rfl wanted_none rfl rfl rfl rfl rfl ?_); (refine aP 2 rfl rfl ?_)
  refine ga_at 3 4 (l := x.args) (f := Arg.cells) (u := a) (by repeat first | exact NoP.sp | apply NoP.then | apply NoP.block) rfl wanted_none rfl (fun a _ => wanted_none a) rfl rfl rfl rfl rfl (Int.natCast_nonneg k) (by omega) (still_rdO (hx.le (old_le0 _ w))) hx1 rfl rfl rfl rfl (by kernel_rfl) (by kernel_rfl) (by kernel_rfl) (by kernel_rfl) (by kernel_rfl) (fun _ => ?_)
  (refine aP 5 rfl rfl ?_); (refine aL 6 0 rfl wanted_none rfl rfl rfl rfl rfl ?_); (refine aP 7 rfl rfl ?_)
  refine ga_at 8 9 (l := y.args) (f := Arg.cells) (u := b) (by repeat first | exact NoP.sp | apply NoP.then | apply NoP.block) rfl wanted_none rfl (fun a _ => wanted_none a) rfl rfl rfl rfl rfl (Int.natCast_nonneg k) (by omega) (still_rdO (hy.le (old_le0 _ w))) hy1 rfl rfl rfl rfl (by kernel_rfl) (by kernel_rfl) (by kernel_rfl) (by kernel_rfl) (by kernel_rfl) (fun _ => ?_)
  refine aQ 10 rfl (p_neA rfl rfl rfl rfl rfl (by kernel_rfl)) ?_
  refine ga_nil (by kernel_rfl) ?_
  repeat' (refine gq_then ?_)
  refine gc_condC rfl (fun h5 => ?_) (fun h5 => ?_)
  · have h5 : (a.k == b.k && a.n == b.n) = false := (Bool.not_eq_true' _).mp h5
    repeat' (first | refine g_pv rfl rfl ?_ | refine g_nil ?_ | refine gq_then ?_ | refine gc_seq ?_ | refine gc_region ?_ | refine gc_ret ?_ | refine gq_then_ret ?_ | refine gq_block_ret ?_)
    refine gq_ret1 (.inr rfl) rfl rfl rfl (fun w' H => ⟨false, ?_, rfl, hp_nil H⟩)
    rw [hS, hR, h5]; rfl
  have h5 : (a.k == b.k && a.n == b.n) = true := (Bool.not_eq_false' _).mp h5
  repeat' (first | refine g_pv rfl rfl ?_ | refine g_nil ?_ | refine gq_then ?_ | refine gc_region ?_ | refine gc_skip ?_ | refine gq_block ?_)
  refine gq_again (k + 1) ⟨hlt, ?_⟩ (by omega) ⟨rfl, rfl, inc_eq (by omega), trivial⟩ (fun w' H => H)
  rw [hR, h5]; rfl

end Go.Proofs.YtpohhfggmaihpaaGreatDoor

/- The document's Right. -/
namespace Go.Proofs.YtpohhfggmaihpaaGreatDoor
open Go.Wk
set_option linter.unusedVariables false
set_option linter.unusedSimpArgs false
attribute [local irreducible] G GC GQ GA GS Exit.then Exit.inBlock

section
variable {nb : Bool} {j : Jg} {x : Ins}
end
end Go.Proofs.YtpohhfggmaihpaaGreatDoor
