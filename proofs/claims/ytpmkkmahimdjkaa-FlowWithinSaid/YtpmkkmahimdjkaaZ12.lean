/-
  flow.postorder.
  The plain law of dominators: an iteration by meets, sound at each step; where it stands still it is right.
  The meet of all that lead to a node; the step; where it stands still.
  One pass over the nodes, the nearest to the root first.
  What one pass says of each node; passes only move up.
  Passes only move up, so they end; where they end chains are dominators.
-/
import Derived.Test.YtpmkkmahimdjkaaZ11

/- flow.postorder. -/
namespace Go.Proofs.Ytpmkkmahimdjkaa
open Go.Wk
set_option linter.unusedVariables false
set_option linter.unusedSimpArgs false
attribute [local irreducible] G GC GQ GA GS Exit.then Exit.inBlock

abbrev OwnS (v : Value) (st : List (Nat × Nat)) (A : HL) : Prop := OwnL 97 2 fS v st A
structure PS where
  out : List Int
  v3 : Value
  A3 : HL
  m : FM
  st : List (Nat × Nat)
  v5 : Value
  A5 : HL
structure PI (n : Nat) (es : Nat → List Int) (y : PS) : Prop where
  o3 : OwnI y.v3 y.out y.A3
  ok : y.m.Ok
  o5 : OwnS y.v5 y.st y.A5
  d : DInv n es y.m.keys y.out y.st
  bd : 2 * rem' n es y.m.keys + stW es y.st ≤ 1000000
theorem PI.lens {n : Nat} {es : Nat → List Int} {y : PS} (h : PI n es y) : y.out.length + y.st.length ≤ n := by
  have h1 := h.d.nd
  have h2 : ((y.out ++ y.st.map (fun s : Nat × Nat => (s.1 : Int))).map Int.toNat).Nodup := by
    have h3 : ∀ k ∈ y.out ++ y.st.map (fun s : Nat × Nat => (s.1 : Int)), 0 ≤ k ∧ k < (n : Int) := fun k hk => by
      have : k ∈ y.m.keys := (h.d.key k).2 (by
        rcases List.mem_append.1 hk with h4 | h4
        · exact .inl h4
        · obtain ⟨s, h5, h6⟩ := List.mem_map.1 h4; exact .inr ⟨s, h5, h6.symm⟩)
      obtain ⟨u, e, hu, _⟩ := h.d.rch k this
      omega
    refine List.Pairwise.map _ (fun a b hab => ?_) (List.Pairwise.and_mem.1 h1)
    obtain ⟨ha, hb, hne⟩ := hab
    have := h3 a ha; have := h3 b hb
    omega
  have h4 := List.Nodup.length_le_of_subset (l₂ := List.range n) h2 (fun x hx => by
    obtain ⟨k, hk, rfl⟩ := List.mem_map.1 hx
    have : k ∈ y.m.keys := (h.d.key k).2 (by
      rcases List.mem_append.1 hk with h4 | h4
      · exact .inl h4
      · obtain ⟨s, h5, h6⟩ := List.mem_map.1 h4; exact .inr ⟨s, h5, h6.symm⟩)
    obtain ⟨u, e, hu, _⟩ := h.d.rch k this
    exact List.mem_range.2 (by omega))
  simpa using h4

theorem pop_exS {l : List (Nat × Nat)} (h : 0 < l.length) : ∃ ws i k, l = ws ++ [(i, k)] := ⟨_, _, _, (List.dropLast_concat_getLast (List.ne_nil_of_length_pos h)).symm⟩
theorem own_popS {ad : Option Addr} {cap : Nat} {ws : List (Nat × Nat)} {x : Nat × Nat} {A : HL} (h : OwnS (.slice ad (ws ++ [x]).length cap) (ws ++ [x]) A) : OwnS (.slice ad ws.length cap) ws A := by
  obtain ⟨g, cap', rest, hv, rfl, h3, h4, h5⟩ := Own.pos h (by simp)
  cases hv
  refine ⟨by rw [flat_len (f := fS) (sz := 2) (fun _ => rfl)], .inr ⟨g, cap, fS x ++ rest, rfl, by simp, by simp at h3; omega, h4, by simp at h5 ⊢; omega⟩⟩

set_option maxHeartbeats 16000000 in
theorem postorder_sp (f : TF) (gb : Nat) (nv fv : Value) (w : World) (hg : GrIn (hw w) f gb nv fv) (hn : 1 ≤ f.code.length) (hn2 : f.code.length ≤ 16384) :
    Sp Try.prog 49 [.pointer (some ⟨gb, 0, none⟩)] w [] (fun y : Value × HL × List Int => y.1) (fun y => [y.2.1]) (fun y => OwnI y.1 y.2.2 y.2.1 ∧ POrder (nxt f.code) y.2.2) := by
  obtain ⟨ad, cap, vals, rfl, hr, hvl, hget⟩ := RdLL.get hg.rn
  have hnl : (nextsAt f.code f.code.length).length = f.code.length := nextsAt_length _ _ (Nat.le_refl _)
  refine enter (s := Try.sx) [] Try.func49 rfl rfl rfl (Eff.refl w) ?_
  repeat' (first | refine g_pv rfl rfl ?_ | refine g_nil ?_ | refine gq_then ?_ | refine gc_seq ?_ | refine gc_region ?_)
  refine g_mkmap rfl (fun r => ?_)
  refine g_ins 0 (kf := KI) (k := (0 : Int)) rfl rfl rfl rfl rfl (kl_int (Try.sx.ok.at rfl)) (mapIs_nil _ _) (fun es0 clock0 M0 => ?_)
  repeat' (first | refine g_pv rfl rfl ?_ | refine g_nil ?_ | refine gq_then ?_ | refine gc_seq ?_ | refine gc_region ?_)
  refine g_build rfl rfl rfl rfl rfl ?_
  refine g_litL rfl rfl rfl rfl rfl rfl rfl rfl rfl rfl (fun g5 => ?_)
  repeat' (first | refine g_pv rfl rfl ?_ | refine g_nil ?_ | refine gq_then ?_ | refine gc_block ?_)
  have hrem := rem_le (n := f.code.length) (m := 2) (es := nxt f.code) (fun u _ => nxt_len f.code u) [0]
  have h0l := nxt_len f.code 0
  refine gc_loop (Y := PS) (PI f.code.length (nxt f.code)) (fun y => [(0, .pointer (some ⟨gb, 0, none⟩)), (3, y.v3), (4, .map (some y.m.r)), (5, y.v5)]) (fun y => [y.A3, y.m.hl, y.A5])
    (fun y => rem' f.code.length (nxt f.code) y.m.keys + stW (nxt f.code) y.st) ⟨[], .slice none 0 0, [], ⟨r, es0, clock0, mput [] 0 (.int .i64 1)⟩, [(0, 0)], .slice (some ⟨g5, 0, none⟩) 1 1, [(g5, .cells ⟨[.int .i64 0, .int .i64 0]⟩ 97 (0, 0))]⟩
    ⟨OwnL.nil _ _ _, ⟨M0, fun p hp => ?_⟩, ⟨rfl, .inr ⟨g5, 1, [], rfl, rfl, Nat.le_refl _, by decide, rfl⟩⟩, DInv.start _ _ hn, ?_⟩ ⟨rfl, rfl, rfl, rfl, trivial⟩ (fun w' H => hp_perm H (List.Perm.swap _ _ [])) ?_
  · simp [mput] at hp; rw [hp]
  · show 2 * rem' f.code.length (nxt f.code) [0] + stW (nxt f.code) [(0, 0)] ≤ _
    rw [stW_one]; simp only; omega
  rintro ⟨out, v3, A3, m, st, v5, A5⟩ hI
  have hlens : out.length + st.length ≤ f.code.length := hI.lens
  have ho5 : OwnS v5 st A5 := hI.o5
  have ho3 : OwnI v3 out A3 := hI.o3
  have hd : DInv f.code.length (nxt f.code) m.keys out st := hI.d
  have hbd : 2 * rem' f.code.length (nxt f.code) m.keys + stW (nxt f.code) st ≤ 1000000 := hI.bd
  dsimp only
  repeat' (first | refine g_pv rfl rfl ?_ | refine gc_seq ?_ | refine gc_region ?_)
  refine g_lenL rfl ho5 rfl rfl ?_
  repeat' (first | refine g_pv rfl rfl ?_ | refine g_nil ?_ | refine gq_then ?_)
  refine gc_condC rfl (fun hc => ?_) (fun hc => ?_)
  · have hpos : 0 < st.length := by have := of_decide_eq_true hc; omega
    obtain ⟨ws, i, k, rfl⟩ := pop_exS hpos
    obtain ⟨g, cap5, rst, hv5, _, hcap5, _, _⟩ := Own.pos ho5 hpos
    subst hv5
    have hwl : (ws ++ [(i, k)]).length = ws.length + 1 := by simp
    have e17 : ∀ t : Nat, some (Value.int IntKind.i64 (IntKind.i64.wrap (((ws ++ [(i, k)]).length : Int) - 1))) = some (Value.int .i64 (ws.length : Int)) := fun _ => by
      rw [hwl, IntKind.wrap_i64]; congr 2; omega
    have hrng := hd.rng (i, k) (by simp)
    have hi : i < f.code.length := hrng.1
    have hkl : k ≤ (nxt f.code i).length := hrng.2
    have hsl : (ws ++ [(i, k)])[ws.length]? = some (i, k) := by simp
    obtain ⟨u, hu, uad, ucap, hue, hur⟩ := hget i _ (nextsAt_get f.code i hi)
    subst hue
    repeat' (first | refine g_pv rfl rfl ?_ | refine gq_then ?_ | refine gc_seq ?_ | refine gc_region ?_ | refine gc_block ?_ | refine gc_skip ?_)
    refine g_eq 18 rfl (Option.some.inj (e17 0)) ?_
    refine g_ix rfl rfl rfl rfl (Int.natCast_nonneg _) (by rw [hwl]; omega) rfl ?_
    repeat' (first | refine g_pv rfl rfl ?_ | refine g_nil ?_ | refine gq_then ?_)
    have hst : ∀ {X : Cx}, ∀ w', Still X [A5] w' → Rd (hw w') fS 2 (some ⟨g, 0, none⟩) (ws ++ [(i, k)]) := fun {X} => still_rd (R0 := [A5]) 0 rfl (fun _ => rfl) ho5 rfl
    have hrow : ∀ {X : Cx} {R : RL} (j : Nat), R[j]? = some A5 → ∀ w', Hp X w' R → Rd (hw w') fS 2 (some ⟨g, 0, none⟩) (ws ++ [(i, k)]) := fun {X R} j hj w' H => by
      obtain ⟨ad', cap', he, hrd⟩ := OwnL.rd (f := fS) (fun _ => rfl) ho5 (H := hw w') (hp_in H j hj)
      have he' := (Value.slice.inj he).1
      subst he'; exact hrd
    refine gc_cut (Y := Unit) (fun _ => k < (nxt f.code i).length) (fun _ => [(0, .pointer (some ⟨gb, 0, none⟩)), (3, v3), (4, .map (some m.r)), (5, .slice (some ⟨g, 0, none⟩) (ws ++ [(i, k)]).length cap5), (6, .pointer (some ⟨g, 0 + ws.length * 2, none⟩))]) (fun _ => [A3, m.hl, A5]) ?_ ?_
    · refine gc_cut (Y := Unit) (fun _ => True) (fun _ => [(35, .bool ((k : Int) == ((nxt f.code i).length : Int))), (0, .pointer (some ⟨gb, 0, none⟩)), (3, v3), (4, .map (some m.r)), (5, .slice (some ⟨g, 0, none⟩) (ws ++ [(i, k)]).length cap5), (6, .pointer (some ⟨g, 0 + ws.length * 2, none⟩))]) (fun _ => [A3, m.hl, A5]) ?_ ?_
      · refine gc_draw [A5] [A3, m.hl] rfl List.perm_append_comm ?_
        (refine ga_p 0 (by repeat first | exact NoP.sp | apply NoP.then | apply NoP.block) rfl (pv_spec rfl) rfl (by kernel_rfl) (by kernel_rfl) (by kernel_rfl) ?_); (refine ga_p 1 (by repeat first | exact NoP.sp | apply NoP.then | apply NoP.block) rfl (pv_spec rfl) rfl (by kernel_rfl) (by kernel_rfl) (by kernel_rfl) ?_); (refine ga_p 2 (by repeat first | exact NoP.sp | apply NoP.then | apply NoP.block) rfl (pv_spec rfl) rfl (by kernel_rfl) (by kernel_rfl) (by kernel_rfl) ?_)
        refine ga_ldF 3 (by repeat first | exact NoP.sp | apply NoP.then | apply NoP.block) rfl wanted_none rfl rfl hst rfl hsl rfl rfl rfl (by kernel_rfl) (by kernel_rfl) (by kernel_rfl) ?_
        (refine ga_p 4 (by repeat first | exact NoP.sp | apply NoP.then | apply NoP.block) rfl (pv_spec rfl) rfl (by kernel_rfl) (by kernel_rfl) (by kernel_rfl) ?_); (refine ga_p 5 (by repeat first | exact NoP.sp | apply NoP.then | apply NoP.block) rfl (pv_spec rfl) rfl (by kernel_rfl) (by kernel_rfl) (by kernel_rfl) ?_); (refine ga_p 6 (by repeat first | exact NoP.sp | apply NoP.then | apply NoP.block) rfl (pv_spec rfl) rfl (by kernel_rfl) (by kernel_rfl) (by kernel_rfl) ?_)
        refine ga_ldO 7 (cs := [.slice ad (nextsAt f.code f.code.length).length cap]) (by repeat first | exact NoP.sp | apply NoP.then | apply NoP.block) rfl wanted_none rfl rfl rfl rfl (cell1 ((old_le0 _ w).cell hg.cn)) rfl (by kernel_rfl) (by kernel_rfl) (by kernel_rfl) ?_
        (refine ga_p 8 (by repeat first | exact NoP.sp | apply NoP.then | apply NoP.block) rfl (pv_spec rfl) rfl (by kernel_rfl) (by kernel_rfl) (by kernel_rfl) ?_); (refine ga_p 9 (by repeat first | exact NoP.sp | apply NoP.then | apply NoP.block) rfl (pv_spec rfl) rfl (by kernel_rfl) (by kernel_rfl) (by kernel_rfl) ?_); (refine ga_p 10 (by repeat first | exact NoP.sp | apply NoP.then | apply NoP.block) rfl (pv_spec rfl) rfl (by kernel_rfl) (by kernel_rfl) (by kernel_rfl) ?_)
        refine ga_ldF 11 (by repeat first | exact NoP.sp | apply NoP.then | apply NoP.block) rfl wanted_none rfl rfl hst rfl hsl rfl rfl rfl (by kernel_rfl) (by kernel_rfl) (by kernel_rfl) ?_
        refine ga_at 12 13 (l := vals) (f := fV) (u := .slice uad (nxt f.code i).length ucap) (by repeat first | exact NoP.sp | apply NoP.then | apply NoP.block) rfl wanted_none rfl (fun a _ => wanted_none a) rfl rfl rfl rfl rfl (Int.natCast_nonneg i) (by omega) (still_rdO (hr.le (old_le0 _ w))) hu rfl rfl rfl rfl (by kernel_rfl) (by kernel_rfl) (by kernel_rfl) (by kernel_rfl) (by kernel_rfl) (fun _ => ?_)
        (refine ga_p 14 (by repeat first | exact NoP.sp | apply NoP.then | apply NoP.block) rfl (pv_spec rfl) rfl (by kernel_rfl) (by kernel_rfl) (by kernel_rfl) ?_); (refine ga_p 15 (by repeat first | exact NoP.sp | apply NoP.then | apply NoP.block) rfl (pv_spec rfl) rfl (by kernel_rfl) (by kernel_rfl) (by kernel_rfl) ?_)
        refine ga_nil (by kernel_rfl) ?_
        exact gq_at () trivial ⟨rfl, rfl, rfl, rfl, rfl, rfl, trivial⟩ (fun w' H => H)
      rintro ⟨⟩ -
      try dsimp only
      refine gc_condC rfl (fun hq => ?_) (fun hq => ?_)
      · have hke : k = (nxt f.code i).length := by have := beq_iff_eq.1 hq; omega
        subst hke
        repeat' (first | refine g_pv rfl rfl ?_ | refine gc_seq ?_ | refine gc_region ?_)
        refine g_ldF (f := fS) (j := ws.length) rfl rfl (hrow 2 rfl) rfl hsl rfl rfl rfl ?_
        refine g_app1L 0 (f := fI) (q := (i : Int)) rfl rfl rfl rfl rfl rfl rfl rfl rfl rfl rfl rfl ho3 (by unfold maxLen; omega) (by show _ * 8 ≤ _; omega) rfl rfl (fun v4 A4 g4 ho4 => ?_)
        repeat' (first | refine g_pv rfl rfl ?_ | refine g_nil ?_ | refine gq_then ?_ | refine gc_seq ?_ | refine gc_region ?_)
        refine g_eq 46 rfl (Option.some.inj (e17 0)) ?_
        refine g_hi rfl rfl rfl rfl (by rw [hwl] at hcap5; omega) rfl ?_
        repeat' (first | refine g_pv rfl rfl ?_ | refine g_nil ?_ | refine gq_then ?_ | refine gc_exit ?_ | refine gq_then_exit ?_ | refine gq_block_exit ?_)
        have hw1 := stW_app (nxt f.code) ws [(i, (nxt f.code i).length)]
        rw [stW_one] at hw1
        refine gq_again ⟨out ++ [(i : Int)], v4, A4, m, ws, _, A5⟩ ⟨ho4, hI.ok, own_popS ho5, hd.pop, by simp only; omega⟩ (by simp only; omega) ⟨rfl, rfl, rfl, rfl, trivial⟩ (fun w' H => H)
      · have hke : (k : Int) ≠ ((nxt f.code i).length : Int) := by simpa using hq
        repeat' (refine gc_skip ?_)
        exact gq_at () (by omega) ⟨rfl, rfl, rfl, rfl, rfl, trivial⟩ (fun w' H => H)
    rintro ⟨⟩ hklt
    try dsimp only
    have hkk : (nxt f.code i)[k]? = some (nxt f.code i)[k] := List.getElem?_eq_getElem hklt
    have hkx := nxt_in f.code i _ (List.getElem_mem hklt)
    have hskip := hd.skip hklt
    have hpush := fun (keys' : List Int) (x : Nat) => hd.push (keys' := keys') (x := x) hklt
    generalize (nxt f.code i)[k] = x at hkk hkx hskip hpush
    obtain ⟨xn, rfl⟩ : ∃ xn : Nat, x = xn := ⟨x.toNat, by omega⟩
    repeat' (fail)
    refine gc_seq ?_
    refine gc_draw [A5] [A3, m.hl] rfl List.perm_append_comm ?_
    (refine ga_p 0 (by repeat first | exact NoP.sp | apply NoP.then | apply NoP.block) rfl (pv_spec rfl) rfl (by kernel_rfl) (by kernel_rfl) (by kernel_rfl) ?_); (refine ga_p 1 (by repeat first | exact NoP.sp | apply NoP.then | apply NoP.block) rfl (pv_spec rfl) rfl (by kernel_rfl) (by kernel_rfl) (by kernel_rfl) ?_); (refine ga_p 2 (by repeat first | exact NoP.sp | apply NoP.then | apply NoP.block) rfl (pv_spec rfl) rfl (by kernel_rfl) (by kernel_rfl) (by kernel_rfl) ?_)
    refine ga_ldO 3 (cs := [.slice ad (nextsAt f.code f.code.length).length cap]) (by repeat first | exact NoP.sp | apply NoP.then | apply NoP.block) rfl wanted_none rfl rfl rfl rfl (cell1 ((old_le0 _ w).cell hg.cn)) rfl (by kernel_rfl) (by kernel_rfl) (by kernel_rfl) ?_
    (refine ga_p 4 (by repeat first | exact NoP.sp | apply NoP.then | apply NoP.block) rfl (pv_spec rfl) rfl (by kernel_rfl) (by kernel_rfl) (by kernel_rfl) ?_); (refine ga_p 5 (by repeat first | exact NoP.sp | apply NoP.then | apply NoP.block) rfl (pv_spec rfl) rfl (by kernel_rfl) (by kernel_rfl) (by kernel_rfl) ?_); (refine ga_p 6 (by repeat first | exact NoP.sp | apply NoP.then | apply NoP.block) rfl (pv_spec rfl) rfl (by kernel_rfl) (by kernel_rfl) (by kernel_rfl) ?_)
    refine ga_ldF 7 (by repeat first | exact NoP.sp | apply NoP.then | apply NoP.block) rfl wanted_none rfl rfl hst rfl hsl rfl rfl rfl (by kernel_rfl) (by kernel_rfl) (by kernel_rfl) ?_
    refine ga_at 8 9 (l := vals) (f := fV) (u := .slice uad (nxt f.code i).length ucap) (by repeat first | exact NoP.sp | apply NoP.then | apply NoP.block) rfl wanted_none rfl (fun a _ => wanted_none a) rfl rfl rfl rfl rfl (Int.natCast_nonneg i) (by omega) (still_rdO (hr.le (old_le0 _ w))) hu rfl rfl rfl rfl (by kernel_rfl) (by kernel_rfl) (by kernel_rfl) (by kernel_rfl) (by kernel_rfl) (fun _ => ?_)
    (refine ga_p 10 (by repeat first | exact NoP.sp | apply NoP.then | apply NoP.block) rfl (pv_spec rfl) rfl (by kernel_rfl) (by kernel_rfl) (by kernel_rfl) ?_); (refine ga_p 11 (by repeat first | exact NoP.sp | apply NoP.then | apply NoP.block) rfl (pv_spec rfl) rfl (by kernel_rfl) (by kernel_rfl) (by kernel_rfl) ?_); (refine ga_p 12 (by repeat first | exact NoP.sp | apply NoP.then | apply NoP.block) rfl (pv_spec rfl) rfl (by kernel_rfl) (by kernel_rfl) (by kernel_rfl) ?_)
    refine ga_ldF 13 (by repeat first | exact NoP.sp | apply NoP.then | apply NoP.block) rfl wanted_none rfl rfl hst rfl hsl rfl rfl rfl (by kernel_rfl) (by kernel_rfl) (by kernel_rfl) ?_
    refine ga_at 14 15 (l := nxt f.code i) (f := fI) (u := (xn : Int)) (by repeat first | exact NoP.sp | apply NoP.then | apply NoP.block) rfl wanted_none rfl (fun a _ => wanted_none a) rfl rfl rfl rfl rfl (Int.natCast_nonneg k) (by omega) (still_rdO (hur.le (old_le0 _ w))) hkk rfl rfl rfl rfl (by kernel_rfl) (by kernel_rfl) (by kernel_rfl) (by kernel_rfl) (by kernel_rfl) (fun _ => ?_)
    (refine ga_p 16 (by repeat first | exact NoP.sp | apply NoP.then | apply NoP.block) rfl (pv_spec rfl) rfl (by kernel_rfl) (by kernel_rfl) (by kernel_rfl) ?_)
    refine ga_nil (by kernel_rfl) ?_
    repeat' (first | refine g_pv rfl rfl ?_ | refine gq_then ?_ | refine gc_seq ?_ | refine gc_region ?_)
    refine g_ldF (f := fS) (j := ws.length) rfl rfl (hrow 2 rfl) rfl hsl rfl rfl rfl ?_
    repeat' (refine g_pv rfl rfl ?_)
    have hd1 := nxt_len f.code i
    refine g_eq 68 (u' := .int .i64 ((k + 1 : Nat) : Int)) rfl (Option.some.inj (inc_eq (by omega))) ?_
    refine g_stF 2 (f := fS) (q := (i, k)) (i, k + 1) (i := ws.length) (off := 1) rfl rfl rfl rfl ho5 (fun _ => rfl) (by simp) hsl rfl (by decide) rfl rfl (fun A5' ho5' => ?_)
    rw [show (ws ++ [(i, k)]).set ws.length (i, k + 1) = ws ++ [(i, k + 1)] from by simp] at ho5'
    have hwl2 : (ws ++ [(i, k)]).length = (ws ++ [(i, k + 1)]).length := by simp
    have hw1 := stW_app (nxt f.code) ws [(i, k)]
    have hw2 := stW_app (nxt f.code) ws [(i, k + 1)]
    rw [stW_one] at hw1 hw2
    simp only at hw1 hw2
    repeat' (first | refine g_pv rfl rfl ?_ | refine g_nil ?_ | refine gq_then ?_ | refine gc_seq ?_ | refine gc_region ?_)
    refine g_look 1 (kf := KI) (k := (xn : Int)) rfl rfl rfl rfl rfl (kl_int (Try.sx.ok.at rfl)) hI.ok.is rfl ?_
    rw [show ((ml m.kv (xn : Int)).getD (Value.int .i64 0)) = _ from FM.look hI.ok (xn : Int)]
    by_cases hk : (xn : Int) ∈ m.keys
    · simp only [if_pos hk]
      repeat' (first | refine g_pv rfl rfl ?_ | refine g_nil ?_ | refine gq_then ?_ | refine gc_cond_f rfl ?_ | refine gc_skip ?_ | refine gq_block ?_)
      refine gq_again ⟨out, v3, A3, m, ws ++ [(i, k + 1)], .slice (some ⟨g, 0, none⟩) (ws ++ [(i, k)]).length cap5, A5'⟩ ⟨ho3, hI.ok, ho5', hskip hk, by simp only; omega⟩ (by simp only; omega) ⟨rfl, rfl, rfl, rfl, trivial⟩ (fun w' H => H)
    · simp only [if_neg hk]
      repeat' (first | refine g_pv rfl rfl ?_ | refine g_nil ?_ | refine gq_then ?_ | refine gc_seq ?_ | refine gc_region ?_ | refine gc_cond_t rfl ?_)
      refine g_look 1 (kf := KI) (k := (xn : Int)) rfl rfl rfl rfl rfl (kl_int (Try.sx.ok.at rfl)) hI.ok.is rfl ?_
      rw [show ((ml m.kv (xn : Int)).getD (Value.int .i64 0)) = _ from FM.look hI.ok (xn : Int)]
      simp only [if_neg hk]
      repeat' (refine g_pv rfl rfl ?_)
      refine g_eq 78 (u' := .int .i64 1) rfl rfl ?_
      refine g_upd 1 (kf := KI) (k := (xn : Int)) rfl rfl rfl rfl rfl (kl_int (Try.sx.ok.at rfl)) hI.ok.is (fun es' clock' M' => ?_)
      have hmem : ∀ k', k' ∈ (FM.keys ⟨m.r, es', clock', mput m.kv (xn : Int) (.int .i64 1)⟩) ↔ k' = (xn : Int) ∨ k' ∈ m.keys := fun k' => mem_keys_mput _ _ _ _
      have hremx := rem_add (es := nxt f.code) hk hmem (n := f.code.length) (by omega)
      have hw3 := stW_app (nxt f.code) (ws ++ [(i, k + 1)]) [(xn, 0)]
      rw [stW_one] at hw3
      simp only at hw3
      repeat' (first | refine g_pv rfl rfl ?_ | refine g_nil ?_ | refine gq_then ?_ | refine gc_region ?_)
      refine g_build rfl rfl rfl rfl rfl ?_
      refine g_app1L 2 (f := fS) (q := (xn, 0)) rfl rfl rfl rfl rfl rfl rfl rfl rfl rfl rfl rfl ho5' (by unfold maxLen; simp; omega) (by show _ * 16 ≤ _; simp; omega) rfl rfl (fun v4 A4 g4 ho4 => ?_)
      repeat' (first | refine g_pv rfl rfl ?_ | refine g_nil ?_ | refine gq_block ?_)
      refine gq_again ⟨out, v3, A3, ⟨m.r, es', clock', mput m.kv (xn : Int) (.int .i64 1)⟩, ws ++ [(i, k + 1)] ++ [(xn, 0)], v4, A4⟩ ⟨ho3, ⟨M', fun p hp => ?_⟩, ho4, hpush _ xn rfl (by omega) hk hmem, by simp only; omega⟩ (by simp only; omega) ⟨rfl, rfl, rfl, rfl, trivial⟩ (fun w' H => H)
      rcases mput_mem p hp with h | h
      · exact h
      · exact hI.ok.one p h
  · have h0 : st = [] := List.eq_nil_of_length_eq_zero (by have := of_decide_eq_false hc; omega)
    subst h0
    repeat' (first | refine g_pv rfl rfl ?_ | refine g_nil ?_ | refine gq_then ?_ | refine gc_seq ?_ | refine gc_region ?_ | refine gc_exit ?_ | refine gc_ret ?_ | refine gq_then_exit ?_ | refine gq_block_exit ?_)
    exact gq_ret1 (.inr rfl) rfl rfl rfl (fun w' H => ⟨(v3, A3, out), ⟨ho3, hd.done⟩, rfl, hp_take 0 rfl (fun H => hp_nil H) H⟩)
end Go.Proofs.Ytpmkkmahimdjkaa

/- The plain law of dominators: an iteration by meets, sound at each step; where it stands still it is right. -/
namespace Go.Proofs.Ytpmkkmahimdjkaa

/-- Come to from 0 without w. -/
inductive RchW (es : Nat → List Int) (w : Nat) : Nat → Prop
  | base : 0 ≠ w → RchW es w 0
  | step {u v : Nat} : RchW es w u → (v : Int) ∈ es u → v ≠ w → RchW es w v
abbrev R0 (es : Nat → List Int) (v : Nat) : Prop := Rch es [0] v
def Dm (es : Nat → List Int) (d v : Nat) : Prop := R0 es v ∧ ¬ RchW es d v

theorem RchW.ne {es : Nat → List Int} {w v : Nat} (h : RchW es w v) : v ≠ w := by
  cases h with
  | base h => exact h
  | step _ _ h => exact h
theorem RchW.rch {es : Nat → List Int} {w v : Nat} (h : RchW es w v) : R0 es v := by
  induction h with
  | base _ => exact Rch.base (by simp)
  | step _ h _ ih => exact Rch.step ih h
theorem Dm.refl {es : Nat → List Int} {v : Nat} (h : R0 es v) : Dm es v v := ⟨h, fun h2 => h2.ne rfl⟩
theorem Dm.zero {es : Nat → List Int} {v : Nat} (h : R0 es v) : Dm es 0 v := ⟨h, fun h2 => by
  clear h
  induction h2 with
  | base h => exact h rfl
  | step h1 _ _ ih => exact ih⟩
theorem Dm.pred {es : Nat → List Int} {d u v : Nat} (h : Dm es d v) (hne : d ≠ v) (hu : R0 es u) (he : (v : Int) ∈ es u) : Dm es d u := ⟨hu, fun h2 => h.2 (RchW.step h2 he (Ne.symm hne))⟩
theorem RchW.split {es : Nat → List Int} {a c : Nat} (b : Nat) (h : RchW es a c) : RchW es b c ∨ RchW es a b := by
  induction h with
  | base h =>
    by_cases hb : 0 = b
    · subst hb; exact .inr (RchW.base h)
    · exact .inl (RchW.base hb)
  | @step u v h1 h2 h3 ih =>
    rcases ih with h4 | h4
    · by_cases hb : v = b
      · subst hb; exact .inr (RchW.step h1 h2 h3)
      · exact .inl (RchW.step h4 h2 hb)
    · exact .inr h4
theorem Dm.trans {es : Nat → List Int} {a b c : Nat} (h1 : Dm es a b) (h2 : Dm es b c) : Dm es a c := ⟨h2.1, fun h => by
  rcases h.split b with h3 | h3
  · exact h2.2 h3
  · exact h1.2 h3⟩

/-- A numbering such as a search leaves: greater is nearer to the root. -/
structure Num (es : Nat → List Int) (num : Nat → Nat) (M : Nat) : Prop where
  bd : ∀ v, R0 es v → num v < M
  inj : ∀ u v, R0 es u → R0 es v → num u = num v → u = v
  par : ∀ v, R0 es v → v ≠ 0 → ∃ u, R0 es u ∧ (v : Int) ∈ es u ∧ num v < num u
theorem Num.way {es : Nat → List Int} {num : Nat → Nat} {M : Nat} (N : Num es num M) : ∀ (k v d : Nat), M - num v = k → R0 es v → num d < num v → RchW es d v := by
  intro k
  induction k using Nat.strongRecOn with
  | _ k ih =>
    intro v d hk hv hd
    have hb := N.bd v hv
    by_cases h0 : v = 0
    · subst h0; exact RchW.base (fun h => by subst h; omega)
    · obtain ⟨u, hu, he, hlt⟩ := N.par v hv h0
      have hbu := N.bd u hu
      exact RchW.step (ih (M - num u) (by omega) u d rfl hu (by omega)) he (fun h => by subst h; omega)
theorem Num.dom {es : Nat → List Int} {num : Nat → Nat} {M : Nat} (N : Num es num M) {d v : Nat} (h : Dm es d v) : num v ≤ num d := by
  rcases Nat.lt_or_ge (num d) (num v) with h1 | h1
  · exact absurd (N.way _ v d rfl h.1 h1) h.2
  · exact h1
theorem Num.anti {es : Nat → List Int} {num : Nat → Nat} {M : Nat} (N : Num es num M) {a b : Nat} (h1 : Dm es a b) (h2 : Dm es b a) : a = b :=
  N.inj a b h2.1 h1.1 (Nat.le_antisymm (N.dom h2) (N.dom h1))

/-- What is known of each: its parent's number, or -1. -/
def ou (ds : List Int) (v : Nat) : Nat := (ds.getD v (-1)).toNat
def df (ds : List Int) (v : Nat) : Prop := 0 ≤ ds.getD v (-1)
structure Good (es : Nat → List Int) (num : Nat → Nat) (ds : List Int) : Prop where
  zero : ds.getD 0 (-1) = 0
  rch : ∀ v, df ds v → R0 es v
  up : ∀ v, df ds v → v ≠ 0 → df ds (ou ds v) ∧ num v < num (ou ds v)
  snd : ∀ v, df ds v → v ≠ 0 → ∀ d, Dm es d v → d ≠ v → Dm es d (ou ds v)

inductive Meet (num : Nat → Nat) (ds : List Int) : Nat → Nat → Nat → Prop
  | same (a : Nat) : Meet num ds a a a
  | left {a b c : Nat} : a ≠ b → num a < num b → Meet num ds (ou ds a) b c → Meet num ds a b c
  | right {a b c : Nat} : a ≠ b → ¬ num a < num b → Meet num ds a (ou ds b) c → Meet num ds a b c
theorem Meet.det {num : Nat → Nat} {ds : List Int} {a b c c' : Nat} (h : Meet num ds a b c) (h' : Meet num ds a b c') : c = c' := by
  induction h with
  | same a => cases h' with
    | same _ => rfl
    | left h _ _ => exact absurd rfl h
    | right h _ _ => exact absurd rfl h
  | left h1 h2 _ ih => cases h' with
    | same _ => exact absurd rfl h1
    | left _ _ h => exact ih h
    | right _ h3 _ => exact absurd h2 h3
  | right h1 h2 _ ih => cases h' with
    | same _ => exact absurd rfl h1
    | left _ h3 _ => exact absurd h3 h2
    | right _ _ h => exact ih h

/-- c is on the way up from a. -/
inductive Ch (ds : List Int) : Nat → Nat → Prop
  | here (a : Nat) : Ch ds a a
  | up {a c : Nat} : a ≠ 0 → Ch ds (ou ds a) c → Ch ds a c
theorem Ch.trans {ds : List Int} {a b c : Nat} (h1 : Ch ds a b) (h2 : Ch ds b c) : Ch ds a c := by
  induction h1 with
  | here _ => exact h2
  | up h _ ih => exact .up h (ih h2)

theorem Num.top {es : Nat → List Int} {num : Nat → Nat} {M : Nat} (N : Num es num M) {v : Nat} (h : R0 es v) (hne : v ≠ 0) : num v < num 0 := by
  have h1 := N.dom (Dm.zero h)
  rcases Nat.lt_or_eq_of_le h1 with h2 | h2
  · exact h2
  · exact absurd (N.inj v 0 h (Rch.base (by simp)) h2) hne

theorem Good.meet {es : Nat → List Int} {num : Nat → Nat} {M : Nat} {ds : List Int} (N : Num es num M) (G : Good es num ds) {a b c : Nat} (h : Meet num ds a b c) (ha : df ds a) (hb : df ds b) :
    df ds c ∧ Ch ds a c ∧ Ch ds b c ∧ ∀ d, Dm es d a → Dm es d b → Dm es d c := by
  induction h with
  | same a => exact ⟨ha, .here a, .here a, fun d h _ => h⟩
  | @left a b c h1 h2 _ ih =>
    have h0 : a ≠ 0 := fun h => by
      subst h
      have := N.dom (Dm.zero (G.rch b hb)); omega
    obtain ⟨hu, hn⟩ := G.up a ha h0
    obtain ⟨i1, i2, i3, i4⟩ := ih hu hb
    refine ⟨i1, .up h0 i2, i3, fun d hda hdb => i4 d (G.snd a ha h0 d hda (fun h => ?_)) hdb⟩
    subst h
    have := N.dom hdb; omega
  | @right a b c h1 h2 _ ih =>
    have hab : num b < num a := by
      rcases Nat.lt_or_eq_of_le (Nat.le_of_not_lt h2) with h | h
      · exact h
      · exact absurd (N.inj a b (G.rch a ha) (G.rch b hb) h.symm) h1
    have h0 : b ≠ 0 := fun h => by
      subst h
      have := N.dom (Dm.zero (G.rch a ha)); omega
    obtain ⟨hu, hn⟩ := G.up b hb h0
    obtain ⟨i1, i2, i3, i4⟩ := ih ha hu
    refine ⟨i1, i2, .up h0 i3, fun d hda hdb => i4 d hda (G.snd b hb h0 d hdb (fun h => ?_))⟩
    subst h
    have := N.dom hda; omega
theorem Good.meets {es : Nat → List Int} {num : Nat → Nat} {M : Nat} {ds : List Int} (N : Num es num M) (G : Good es num ds) : ∀ (k a b : Nat), (M - num a) + (M - num b) = k → df ds a → df ds b → ∃ c, Meet num ds a b c := by
  intro k
  induction k using Nat.strongRecOn with
  | _ k ih =>
    intro a b hk ha hb
    by_cases hab : a = b
    · subst hab; exact ⟨a, .same a⟩
    have h3 := N.bd a (G.rch a ha)
    have h4 := N.bd b (G.rch b hb)
    by_cases hlt : num a < num b
    · have h0 : a ≠ 0 := fun h => by
        subst h
        have := N.dom (Dm.zero (G.rch b hb)); omega
      obtain ⟨hu, hn⟩ := G.up a ha h0
      obtain ⟨c, hc⟩ := ih ((M - num (ou ds a)) + (M - num b)) (by omega) _ b rfl hu hb
      exact ⟨c, .left hab hlt hc⟩
    · have h2 : num b < num a := by
        rcases Nat.lt_or_eq_of_le (Nat.le_of_not_lt hlt) with h | h
        · exact h
        · exact absurd (N.inj a b (G.rch a ha) (G.rch b hb) h.symm) hab
      have h0 : b ≠ 0 := fun h => by
        subst h
        have := N.dom (Dm.zero (G.rch a ha)); omega
      obtain ⟨hu, hn⟩ := G.up b hb h0
      obtain ⟨c, hc⟩ := ih ((M - num a) + (M - num (ou ds b))) (by omega) a _ rfl ha hu
      exact ⟨c, .right hab hlt hc⟩
end Go.Proofs.Ytpmkkmahimdjkaa

/- The meet of all that lead to a node; the step; where it stands still. -/
namespace Go.Proofs.Ytpmkkmahimdjkaa

/-- The best so far is b (-1: none); ps are still to be met; r comes of it. -/
inductive Best (num : Nat → Nat) (ds : List Int) : Int → List Int → Int → Prop
  | nil (b : Int) : Best num ds b [] b
  | skip {b p r : Int} {ps : List Int} : ds.getD p.toNat (-1) < 0 → Best num ds b ps r → Best num ds b (p :: ps) r
  | first {b p r : Int} {ps : List Int} : ¬ ds.getD p.toNat (-1) < 0 → b < 0 → Best num ds p ps r → Best num ds b (p :: ps) r
  | next {b p r : Int} {c : Nat} {ps : List Int} : ¬ ds.getD p.toNat (-1) < 0 → ¬ b < 0 → Meet num ds p.toNat b.toNat c → Best num ds c ps r → Best num ds b (p :: ps) r
theorem Best.det {num : Nat → Nat} {ds : List Int} {b r r' : Int} {ps : List Int} (h : Best num ds b ps r) (h' : Best num ds b ps r') : r = r' := by
  induction h with
  | nil b => cases h'; rfl
  | skip h1 _ ih => cases h' with
    | skip _ h => exact ih h
    | first h2 _ _ => exact absurd h1 h2
    | next h2 _ _ _ => exact absurd h1 h2
  | first h1 h2 _ ih => cases h' with
    | skip h3 _ => exact absurd h3 h1
    | first _ _ h => exact ih h
    | next _ h3 _ _ => exact absurd h2 h3
  | next h1 h2 hm _ ih => cases h' with
    | skip h3 _ => exact absurd h3 h1
    | first _ h3 _ => exact absurd h3 h2
    | next _ _ hm' h => have := hm.det hm'; subst this; exact ih h
theorem Meet.low {es : Nat → List Int} {num : Nat → Nat} {M : Nat} {ds : List Int} (N : Num es num M) (G : Good es num ds) {a b c : Nat} (h : Meet num ds a b c) (ha : df ds a) (hb : df ds b) :
    ∀ x, Ch ds a x → Ch ds b x → Ch ds c x := by
  have up : ∀ {a x}, Ch ds a x → df ds a → num a ≤ num x := by
    intro a x h
    induction h with
    | here _ => intro _; exact Nat.le_refl _
    | up h0 _ ih => intro ha; have := G.up _ ha h0; have := ih this.1; omega
  induction h with
  | same a => exact fun x h _ => h
  | @left a b c h1 h2 _ ih =>
    have h0 : a ≠ 0 := fun h => by
      subst h
      have := N.dom (Dm.zero (G.rch b hb)); omega
    obtain ⟨hu, hn⟩ := G.up a ha h0
    intro x hx hy
    refine ih hu hb x ?_ hy
    cases hx with
    | here _ => have := up hy hb; omega
    | up _ h => exact h
  | @right a b c h1 h2 _ ih =>
    have hab : num b < num a := by
      rcases Nat.lt_or_eq_of_le (Nat.le_of_not_lt h2) with h | h
      · exact h
      · exact absurd (N.inj a b (G.rch a ha) (G.rch b hb) h.symm) h1
    have h0 : b ≠ 0 := fun h => by
      subst h
      have := N.dom (Dm.zero (G.rch a ha)); omega
    obtain ⟨hu, hn⟩ := G.up b hb h0
    intro x hx hy
    refine ih ha hu x hx ?_
    cases hy with
    | here _ => have := up hx ha; omega
    | up _ h => exact h
theorem Good.num_le {es : Nat → List Int} {num : Nat → Nat} {ds : List Int} (G : Good es num ds) {a x : Nat} (h : Ch ds a x) : df ds a → num a ≤ num x ∧ df ds x := by
  induction h with
  | here _ => exact fun ha => ⟨Nat.le_refl _, ha⟩
  | up h0 _ ih => intro ha; have h1 := G.up _ ha h0; have h2 := ih h1.1; exact ⟨by omega, h2.2⟩

/-- What the best is: on the way up of all that are known, lowest of such. -/
theorem Best.spec {es : Nat → List Int} {num : Nat → Nat} {M : Nat} {ds : List Int} (N : Num es num M) (G : Good es num ds) {b r : Int} {ps : List Int} (h : Best num ds b ps r) : (∀ p ∈ ps, 0 ≤ p) → (b < 0 → b = -1) → (¬ b < 0 → df ds b.toNat) →
    ((r < 0 → r = -1 ∧ b < 0 ∧ ∀ p ∈ ps, ¬ df ds p.toNat) ∧ (¬ r < 0 → df ds r.toNat ∧ (¬ b < 0 → Ch ds b.toNat r.toNat) ∧ (∀ p ∈ ps, df ds p.toNat → Ch ds p.toNat r.toNat) ∧
      (∀ d, (¬ b < 0 → Dm es d b.toNat) → (∀ p ∈ ps, df ds p.toNat → Dm es d p.toNat) → Dm es d r.toNat) ∧
      (∀ x, (¬ b < 0 → Ch ds b.toNat x) → (∀ p ∈ ps, df ds p.toNat → Ch ds p.toNat x) → Ch ds r.toNat x))) := by
  induction h with
  | nil b => exact fun _ hb hd => ⟨fun h => ⟨hb h, h, fun p hp => (by cases hp)⟩, fun h => ⟨hd h, fun _ => .here _, fun p hp => (by cases hp), fun d h1 _ => h1 h, fun x h1 _ => h1 h⟩⟩
  | @skip b p r ps h1 _ ih =>
    intro hp hb hd
    obtain ⟨i1, i2⟩ := ih (fun q hq => hp q (List.mem_cons_of_mem _ hq)) hb hd
    have hnd : ¬ df ds p.toNat := fun h => by unfold df at h; omega
    refine ⟨fun h => ⟨(i1 h).1, (i1 h).2.1, fun q hq => ?_⟩, fun h => ?_⟩
    · rcases List.mem_cons.1 hq with h2 | h2
      · subst h2; exact hnd
      · exact (i1 h).2.2 q h2
    · obtain ⟨j1, j2, j3, j4, j5⟩ := i2 h
      refine ⟨j1, j2, fun q hq hdq => ?_, fun d h2 h3 => j4 d h2 (fun q hq => h3 q (List.mem_cons_of_mem _ hq)), fun x h2 h3 => j5 x h2 (fun q hq => h3 q (List.mem_cons_of_mem _ hq))⟩
      rcases List.mem_cons.1 hq with h2 | h2
      · subst h2; exact absurd hdq hnd
      · exact j3 q h2 hdq
  | @first b p r ps h1 h2 _ ih =>
    intro hp hb hd
    have hp0 := hp p List.mem_cons_self
    have hdp : df ds p.toNat := by unfold df; omega
    obtain ⟨i1, i2⟩ := ih (fun q hq => hp q (List.mem_cons_of_mem _ hq)) (fun h => by omega) (fun _ => hdp)
    have hpn : ¬ p < 0 := by omega
    refine ⟨fun h => absurd (i1 h).2.1 hpn, fun h => ?_⟩
    obtain ⟨j1, j2, j3, j4, j5⟩ := i2 h
    refine ⟨j1, fun h3 => absurd h2 h3, fun q hq hdq => ?_, fun d _ h3 => j4 d (fun _ => h3 p List.mem_cons_self hdp) (fun q hq => h3 q (List.mem_cons_of_mem _ hq)), fun x _ h3 => j5 x (fun _ => h3 p List.mem_cons_self hdp) (fun q hq => h3 q (List.mem_cons_of_mem _ hq))⟩
    rcases List.mem_cons.1 hq with h3 | h3
    · subst h3; exact j2 hpn
    · exact j3 q h3 hdq
  | @next b p r c ps h1 h2 hm _ ih =>
    intro hp hb hd
    have hp0 := hp p List.mem_cons_self
    have hdp : df ds p.toNat := by unfold df; omega
    have hdb := hd h2
    obtain ⟨m1, m2, m3, m4⟩ := G.meet N hm hdp hdb
    have hl := Meet.low N G hm hdp hdb
    have hcn : ¬ (c : Int) < 0 := by omega
    obtain ⟨i1, i2⟩ := ih (fun q hq => hp q (List.mem_cons_of_mem _ hq)) (fun h => by omega) (fun _ => by simpa using m1)
    refine ⟨fun h => absurd (i1 h).2.1 hcn, fun h => ?_⟩
    obtain ⟨j1, j2, j3, j4, j5⟩ := i2 h
    have j2' : Ch ds c r.toNat := by simpa using j2 hcn
    refine ⟨j1, fun _ => m3.trans j2', fun q hq hdq => ?_, fun d h3 h4 => j4 d (fun _ => ?_) (fun q hq => h4 q (List.mem_cons_of_mem _ hq)), fun x h3 h4 => j5 x (fun _ => ?_) (fun q hq => h4 q (List.mem_cons_of_mem _ hq))⟩
    · rcases List.mem_cons.1 hq with h3 | h3
      · subst h3; exact m2.trans j2'
      · exact j3 q h3 hdq
    · simpa using m4 d (h4 p List.mem_cons_self hdp) (h3 h2)
    · simpa using hl x (h4 p List.mem_cons_self hdp) (h3 h2)
end Go.Proofs.Ytpmkkmahimdjkaa

/- One pass over the nodes, the nearest to the root first. -/
namespace Go.Proofs.Ytpmkkmahimdjkaa

inductive Pass (num : Nat → Nat) (fr : Nat → List Int) : List Int → List Nat → List Int → Prop
  | nil (s : List Int) : Pass num fr s [] s
  | cons {s s' : List Int} {v : Nat} {vs : List Nat} {r : Int} : Best num s (-1) (fr v) r → Pass num fr (s.set v r) vs s' → Pass num fr s (v :: vs) s'
theorem Pass.det {num : Nat → Nat} {fr : Nat → List Int} {s s' s'' : List Int} {vs : List Nat} (h : Pass num fr s vs s') (h' : Pass num fr s vs s'') : s' = s'' := by
  induction h with
  | nil s => cases h'; rfl
  | cons hb _ ih => cases h' with
    | cons hb' h => have := hb.det hb'; subst this; exact ih h
theorem Pass.length {num : Nat → Nat} {fr : Nat → List Int} {s s' : List Int} {vs : List Nat} (h : Pass num fr s vs s') : s'.length = s.length := by
  induction h with
  | nil s => rfl
  | cons _ _ ih => rw [ih]; simp
theorem Pass.out {num : Nat → Nat} {fr : Nat → List Int} {s s' : List Int} {vs : List Nat} (h : Pass num fr s vs s') {u : Nat} (hu : u ∉ vs) : s'.getD u (-1) = s.getD u (-1) := by
  induction h with
  | nil s => rfl
  | @cons s s' v vs r _ _ ih =>
    rw [ih (fun h => hu (List.mem_cons_of_mem _ h))]
    have hne : v ≠ u := fun h => hu (by subst h; exact List.mem_cons_self)
    simp [List.getD, List.getElem?_set_ne hne]

/-- The ways into each node, and what the numbering is of them. -/
structure Fr (es : Nat → List Int) (fr : Nat → List Int) (n : Nat) : Prop where
  nn : ∀ v, ∀ p ∈ fr v, 0 ≤ p
  edge : ∀ v, ∀ p ∈ fr v, R0 es p.toNat → (v : Int) ∈ es p.toNat
  all : ∀ u v : Nat, R0 es u → (v : Int) ∈ es u → (u : Int) ∈ fr v
  lt : ∀ v, R0 es v → v < n

theorem getD_setI (s : List Int) (v u : Nat) (r : Int) (h : v < s.length) : (s.set v r).getD u (-1) = if u = v then r else s.getD u (-1) := by
  by_cases hu : u = v
  · subst hu; simp [List.getD, List.getElem?_set_self h]
  · simp [List.getD, List.getElem?_set_ne (Ne.symm hu), hu]

/-- A step: what is known stays good, and the node is known. -/
theorem Good.step {es : Nat → List Int} {num : Nat → Nat} {M n : Nat} {fr : Nat → List Int} {s : List Int} {v : Nat} {r : Int} (N : Num es num M) (F : Fr es fr n) (G : Good es num s) (hl : s.length = n) (hv : R0 es v) (h0 : v ≠ 0)
    (hd : ∀ u, R0 es u → num v < num u → df s u) (h : Best num s (-1) (fr v) r) : Good es num (s.set v r) ∧ df (s.set v r) v ∧ 0 ≤ r := by
  have hvl : v < s.length := by rw [hl]; exact F.lt v hv
  obtain ⟨b1, b2⟩ := h.spec N G (F.nn v) (fun _ => rfl) (fun h => by omega)
  obtain ⟨u, hu, he, hlt⟩ := N.par v hv h0
  have hur := F.all u v hu he
  have hdu := hd u hu hlt
  have hr : ¬ r < 0 := fun h => (b1 h).2.2 _ hur (by simpa using hdu)
  obtain ⟨c1, _, c3, c4, _⟩ := b2 hr
  have hch : Ch s u r.toNat := by simpa using c3 _ hur (by simpa using hdu)
  have hnum := (G.num_le hch hdu).1
  have hg : ∀ x, (s.set v r).getD x (-1) = if x = v then r else s.getD x (-1) := fun x => getD_setI s v x r hvl
  have hdf : ∀ x, df (s.set v r) x ↔ x = v ∨ df s x := fun x => by
    unfold df; rw [hg]
    by_cases hx : x = v
    · simp [hx]; omega
    · simp [hx]
  have hou : ∀ x, x ≠ v → ou (s.set v r) x = ou s x := fun x hx => by unfold ou; rw [hg, if_neg hx]
  have houv : ou (s.set v r) v = r.toNat := by unfold ou; rw [hg, if_pos rfl]
  refine ⟨⟨by rw [hg, if_neg (Ne.symm h0)]; exact G.zero, fun x hx => ?_, fun x hx hx0 => ?_, fun x hx hx0 d hdm hne => ?_⟩, (hdf v).2 (.inl rfl), by omega⟩
  · rcases (hdf x).1 hx with h1 | h1
    · subst h1; exact hv
    · exact G.rch x h1
  · by_cases hxv : x = v
    · subst hxv
      rw [houv]
      exact ⟨(hdf _).2 (.inr c1), by omega⟩
    · rcases (hdf x).1 hx with h1 | h1
      · exact absurd h1 hxv
      · rw [hou x hxv]
        have := G.up x h1 hx0
        exact ⟨(hdf _).2 (.inr this.1), this.2⟩
  · by_cases hxv : x = v
    · subst hxv
      rw [houv]
      exact c4 d (fun h => absurd (by omega : (-1 : Int) < 0) h) (fun p hp hdp => hdm.pred hne (G.rch _ hdp) (F.edge _ p hp (G.rch _ hdp)))
    · rcases (hdf x).1 hx with h1 | h1
      · exact absurd h1 hxv
      · rw [hou x hxv]; exact G.snd x h1 hx0 d hdm hne

/-- The nodes in order: all but 0, the nearest to the root first. -/
structure Ord (es : Nat → List Int) (num : Nat → Nat) (vs : List Nat) : Prop where
  dec : vs.Pairwise (fun a b => num b < num a)
  mem : ∀ v, v ∈ vs ↔ R0 es v ∧ v ≠ 0

theorem Pass.good {es : Nat → List Int} {num : Nat → Nat} {M n : Nat} {fr : Nat → List Int} (N : Num es num M) (F : Fr es fr n) {s s' : List Int} {vs : List Nat} (h : Pass num fr s vs s') :
    Good es num s → s.length = n → vs.Pairwise (fun a b => num b < num a) → (∀ v ∈ vs, R0 es v ∧ v ≠ 0) → (∀ u, R0 es u → u ∉ vs → df s u ∨ ∀ v ∈ vs, num u < num v) →
    Good es num s' ∧ ∀ v ∈ vs, df s' v := by
  induction h with
  | nil s => exact fun G _ _ _ _ => ⟨G, fun v h => by cases h⟩
  | @cons s s' v vs r hb hp ih =>
    intro G hl hdec hin hu
    obtain ⟨hd1, hd2⟩ := List.pairwise_cons.1 hdec
    have hv := hin v List.mem_cons_self
    have hdf : ∀ u, R0 es u → num v < num u → df s u := fun u hru hlt => by
      have hnu : u ∉ v :: vs := fun h => by
        rcases List.mem_cons.1 h with h | h
        · subst h; omega
        · have := hd1 u h; omega
      rcases hu u hru hnu with h | h
      · exact h
      · have := h v List.mem_cons_self; omega
    obtain ⟨G', hdv, _⟩ := G.step N F hl hv.1 hv.2 hdf hb
    have hvl : v < s.length := by rw [hl]; exact F.lt v hv.1
    obtain ⟨G2, h2⟩ := ih G' (by simpa using hl) hd2 (fun u hu' => hin u (List.mem_cons_of_mem _ hu')) (fun u hru hnu => by
      by_cases huv : u = v
      · subst huv; exact .inl hdv
      · rcases hu u hru (fun h => by rcases List.mem_cons.1 h with h | h
                                     · exact huv h
                                     · exact hnu h) with h | h
        · left; unfold df at h ⊢; rw [getD_setI s v u r hvl, if_neg huv]; exact h
        · exact .inr (fun w hw => h w (List.mem_cons_of_mem _ hw)))
    refine ⟨G2, fun u hu' => ?_⟩
    rcases List.mem_cons.1 hu' with h | h
    · subst h
      have hnu : u ∉ vs := fun h => by have := hd1 u h; omega
      unfold df at hdv ⊢; rw [hp.out hnu]; exact hdv
    · exact h2 u h
end Go.Proofs.Ytpmkkmahimdjkaa

/- What one pass says of each node; passes only move up. -/
namespace Go.Proofs.Ytpmkkmahimdjkaa

/-- What a pass from s to s' says of each node. -/
def One (es : Nat → List Int) (num : Nat → Nat) (fr : Nat → List Int) (s s' : List Int) : Prop :=
  ∀ v, R0 es v → v ≠ 0 → ∃ t, Good es num t ∧ Best num t (-1) (fr v) (s'.getD v (-1)) ∧ (∀ u, R0 es u ∧ num v < num u → t.getD u (-1) = s'.getD u (-1)) ∧ (∀ u, ¬ (R0 es u ∧ num v < num u) → t.getD u (-1) = s.getD u (-1))

theorem Pass.one {es : Nat → List Int} {num : Nat → Nat} {M n : Nat} {fr : Nat → List Int} (N : Num es num M) (F : Fr es fr n) {s s' : List Int} {vs : List Nat} (h : Pass num fr s vs s') :
    Good es num s → s.length = n → vs.Pairwise (fun a b => num b < num a) → (∀ v ∈ vs, R0 es v ∧ v ≠ 0) → (∀ u, R0 es u → u ∉ vs → df s u ∨ ∀ v ∈ vs, num u < num v) →
    ∀ v ∈ vs, ∃ t, Good es num t ∧ Best num t (-1) (fr v) (s'.getD v (-1)) ∧ (∀ u, R0 es u ∧ num v < num u → t.getD u (-1) = s'.getD u (-1)) ∧ (∀ u, ¬ (R0 es u ∧ num v < num u) → t.getD u (-1) = s.getD u (-1)) := by
  induction h with
  | nil s => exact fun _ _ _ _ _ v h => by cases h
  | @cons s s' v vs r hb hp ih =>
    intro G hl hdec hin hu w hw
    obtain ⟨hd1, hd2⟩ := List.pairwise_cons.1 hdec
    have hv := hin v List.mem_cons_self
    have hvl : v < s.length := by rw [hl]; exact F.lt v hv.1
    have hnv : v ∉ vs := fun h => by have := hd1 v h; omega
    rcases List.mem_cons.1 hw with h | h
    · subst h
      refine ⟨s, G, ?_, fun u hu' => ?_, fun u _ => rfl⟩
      · rw [hp.out hnv, getD_setI s w w r hvl, if_pos rfl]; exact hb
      · have hnu : u ∉ vs := fun h => by have := hd1 u h; omega
        rw [hp.out hnu, getD_setI s w u r hvl, if_neg (fun h => by subst h; omega)]
    · have hdf : ∀ u, R0 es u → num v < num u → df s u := fun u hru hlt => by
        have hnu : u ∉ v :: vs := fun h => by
          rcases List.mem_cons.1 h with h | h
          · subst h; omega
          · have := hd1 u h; omega
        rcases hu u hru hnu with h | h
        · exact h
        · have := h v List.mem_cons_self; omega
      obtain ⟨G', hdv, _⟩ := G.step N F hl hv.1 hv.2 hdf hb
      obtain ⟨t, t1, t2, t3, t4⟩ := ih G' (by simpa using hl) hd2 (fun u hu' => hin u (List.mem_cons_of_mem _ hu')) (fun u hru hnu => by
        by_cases huv : u = v
        · subst huv; exact .inl hdv
        · rcases hu u hru (fun h => by rcases List.mem_cons.1 h with h | h
                                       · exact huv h
                                       · exact hnu h) with h | h
          · left; unfold df at h ⊢; rw [getD_setI s v u r hvl, if_neg huv]; exact h
          · exact .inr (fun w hw => h w (List.mem_cons_of_mem _ hw))) w h
      refine ⟨t, t1, t2, t3, fun u hu' => ?_⟩
      rw [t4 u hu', getD_setI s v u r hvl, if_neg]
      intro he; subst he
      exact hu' ⟨hv.1, hd1 w h⟩

theorem Pass.ones {es : Nat → List Int} {num : Nat → Nat} {M n : Nat} {fr : Nat → List Int} (N : Num es num M) (F : Fr es fr n) {s s' : List Int} {vs : List Nat} (O : Ord es num vs) (h : Pass num fr s vs s') (G : Good es num s) (hl : s.length = n) :
    Good es num s' ∧ (∀ v, R0 es v → df s' v) ∧ One es num fr s s' := by
  have hu : ∀ u, R0 es u → u ∉ vs → df s u ∨ ∀ v ∈ vs, num u < num v := fun u hru hnu => by
    have : u = 0 := Classical.byContradiction fun h => hnu ((O.mem u).2 ⟨hru, h⟩)
    subst this
    left; unfold df; rw [G.zero]; exact Int.le_refl _
  obtain ⟨g1, g2⟩ := h.good N F G hl O.dec (fun v hv => (O.mem v).1 hv) hu
  refine ⟨g1, fun v hv => ?_, fun v hv h0 => h.one N F G hl O.dec (fun v hv => (O.mem v).1 hv) hu v ((O.mem v).2 ⟨hv, h0⟩)⟩
  by_cases h0 : v = 0
  · subst h0; unfold df; rw [g1.zero]; exact Int.le_refl _
  · exact g2 v ((O.mem v).2 ⟨hv, h0⟩)

/-- Chains of nodes that are nearer look at nearer nodes alone. -/
theorem Ch.same {es : Nat → List Int} {num : Nat → Nat} {s t : List Int} (G : Good es num s) {k : Nat} (hst : ∀ u, R0 es u ∧ k < num u → t.getD u (-1) = s.getD u (-1)) {a x : Nat} (h : Ch s a x) : df s a → k < num a → Ch t a x := by
  induction h with
  | here a => exact fun _ _ => .here a
  | @up a c h0 _ ih =>
    intro ha hk
    have h1 := G.up a ha h0
    have e : ou t a = ou s a := by unfold ou; rw [hst a ⟨G.rch a ha, hk⟩]
    refine .up h0 ?_
    rw [e]; exact ih h1.1 (by omega)
theorem df_same {s t : List Int} {a : Nat} (h : t.getD a (-1) = s.getD a (-1)) : df t a ↔ df s a := by unfold df; rw [h]

/-- A way ahead leads above the parent. -/
def Fwd (es : Nat → List Int) (num : Nat → Nat) (s : List Int) : Prop := ∀ u v, R0 es u → R0 es v → v ≠ 0 → (v : Int) ∈ es u → num v < num u → Ch s u (ou s v)
theorem One.fwd {es : Nat → List Int} {num : Nat → Nat} {M n : Nat} {fr : Nat → List Int} (N : Num es num M) (F : Fr es fr n) {s s' : List Int} (G' : Good es num s') (hd : ∀ v, R0 es v → df s' v) (h : One es num fr s s') : Fwd es num s' := by
  intro u v hu hv h0 he hlt
  obtain ⟨t, t1, t2, t3, t4⟩ := h v hv h0
  obtain ⟨_, b2⟩ := t2.spec N t1 (F.nn v) (fun _ => rfl) (fun h => absurd (by omega : (-1 : Int) < 0) h)
  have hr : ¬ s'.getD v (-1) < 0 := by have := hd v hv; unfold df at this; omega
  obtain ⟨_, _, c3, _, _⟩ := b2 hr
  have hdu : df t u := (df_same (t3 u ⟨hu, hlt⟩)).2 (hd u hu)
  have h2 : Ch t u (ou s' v) := c3 u (F.all u v hu he) hdu
  exact Ch.same t1 (k := num v) (fun x hx => (t3 x hx).symm) h2 hdu hlt

/-- K: a later chain's node above an earlier chain's node is above it later too. -/
theorem keyK {es : Nat → List Int} {num : Nat → Nat} {M : Nat} (N : Num es num M) {s s' : List Int} (G : Good es num s) (hd : ∀ v, R0 es v → df s v) (F1 : Fwd es num s) (F2 : Fwd es num s') :
    ∀ (k x : Nat), M - num x = k → R0 es x → ∀ o b, Ch s x o → Ch s' x b → num o ≤ num b → Ch s' o b := by
  intro k
  induction k using Nat.strongRecOn with
  | _ k ih =>
    intro x hk hx o b ho hb hle
    cases ho with
    | here _ => exact hb
    | up h0 ho =>
      cases hb with
      | here _ =>
        have h1 := G.up x (hd x hx) h0
        have h2 := (G.num_le ho h1.1).1
        omega
      | up _ hb =>
        obtain ⟨p, hp, he, hlt⟩ := N.par x hx h0
        have hbp := N.bd p hp
        have c1 := (F1 p x hp hx h0 he hlt).trans ho
        have c2 := (F2 p x hp hx h0 he hlt).trans hb
        exact ih (M - num p) (by omega) p rfl hp o b c1 c2 hle
end Go.Proofs.Ytpmkkmahimdjkaa

/- Passes only move up, so they end; where they end chains are dominators. -/
namespace Go.Proofs.Ytpmkkmahimdjkaa
set_option linter.unusedVariables false

theorem ou_same {s t : List Int} {a : Nat} (h : t.getD a (-1) = s.getD a (-1)) : ou t a = ou s a := by unfold ou; rw [h]
/-- Where a way up of t (nearer nodes of s2, the others of s1) crosses k. -/
theorem cross {es : Nat → List Int} {num : Nat → Nat} {s1 s2 t : List Int} {k : Nat} (Gt : Good es num t) (h2 : ∀ u, R0 es u ∧ k < num u → t.getD u (-1) = s2.getD u (-1)) (h1 : ∀ u, ¬ (R0 es u ∧ k < num u) → t.getD u (-1) = s1.getD u (-1)) {p r : Nat} (h : Ch t p r) :
    df t p → k < num r → ∃ z, Ch s1 p z ∧ Ch t p z ∧ k < num z ∧ Ch s2 z r ∧ R0 es z := by
  induction h with
  | here p => exact fun hp hk => ⟨p, .here p, .here p, hk, .here p, Gt.rch p hp⟩
  | @up p r h0 hc ih =>
    intro hp hk
    by_cases hpk : k < num p
    · exact ⟨p, .here p, .here p, hpk, Ch.same Gt (fun u hu => (h2 u hu).symm) (.up h0 hc) hp hpk, Gt.rch p hp⟩
    · obtain ⟨z, z1, z2, z3, z4, z5⟩ := ih (Gt.up p hp h0).1 hk
      have e := ou_same (h1 p (fun h => hpk h.2))
      exact ⟨z, .up h0 (by rw [← e]; exact z1), .up h0 z2, z3, z4, z5⟩

theorem monM {es : Nat → List Int} {num : Nat → Nat} {M n : Nat} {fr : Nat → List Int} (N : Num es num M) (F : Fr es fr n) {s0 s1 s2 : List Int} (G0 : Good es num s0) (G1 : Good es num s1) (G2 : Good es num s2) (d1 : ∀ v, R0 es v → df s1 v) (d2 : ∀ v, R0 es v → df s2 v)
    (O1 : One es num fr s0 s1) (O2 : One es num fr s1 s2)
    (hAB : (∀ u, df s0 u → u = 0) ∨ ((∀ v, R0 es v → df s0 v) ∧ Fwd es num s0 ∧ ∀ v, R0 es v → ∀ b, Ch s1 v b → Ch s0 v b)) :
    ∀ (k v : Nat), M - num v = k → R0 es v → ∀ b, Ch s2 v b → Ch s1 v b := by
  intro k
  induction k using Nat.strongRecOn with
  | _ k ih =>
    intro v hk hv b hb
    have hvM := N.bd v hv
    cases hb with
    | here _ => exact .here v
    | up h0 hb =>
      obtain ⟨t1, g1, b1, e1, f1⟩ := O1 v hv h0
      obtain ⟨t2, g2, b2, e2, f2⟩ := O2 v hv h0
      have hn1 : ¬ s1.getD v (-1) < 0 := by have := d1 v hv; unfold df at this; omega
      have hn2 : ¬ s2.getD v (-1) < 0 := by have := d2 v hv; unfold df at this; omega
      obtain ⟨x1, _, x3, _, x5⟩ := (b1.spec N g1 (F.nn v) (fun _ => rfl) (fun h => absurd (by omega : (-1 : Int) < 0) h)).2 hn1
      obtain ⟨y1, _, y3, _, _⟩ := (b2.spec N g2 (F.nn v) (fun _ => rfl) (fun h => absurd (by omega : (-1 : Int) < 0) h)).2 hn2
      have up1 := G1.up v (d1 v hv) h0
      have up2 := G2.up v (d2 v hv) h0
      have low : Ch t1 (ou s1 v) b := by
        refine x5 b (fun h => absurd (by omega : (-1 : Int) < 0) h) (fun p hp hdp => ?_)
        have hrp := g1.rch _ hdp
        by_cases hlt : num v < num p.toNat
        · have hpM := N.bd _ hrp
          have hd2 : df t2 p.toNat := (df_same (e2 _ ⟨hrp, hlt⟩)).2 (d2 _ hrp)
          have c1 : Ch t2 p.toNat (ou s2 v) := y3 p hp hd2
          have c2 : Ch s2 p.toNat (ou s2 v) := Ch.same g2 (k := num v) (fun u hu => (e2 u hu).symm) c1 hd2 hlt
          have c3 := ih (M - num p.toNat) (by omega) _ rfl hrp b (c2.trans hb)
          exact Ch.same G1 (k := num v) (fun u hu => e1 u hu) c3 (d1 _ hrp) hlt
        · have hd0 : df s0 p.toNat := (df_same (f1 _ (fun h => hlt h.2))).1 hdp
          rcases hAB with hA | ⟨hA1, hA2, hA3⟩
          · have h00 := hA _ hd0
            have := N.top hv h0
            rw [h00] at hlt; omega
          · have hd2 : df t2 p.toNat := (df_same (f2 _ (fun h => hlt h.2))).2 (d1 _ hrp)
            have c1 : Ch t2 p.toNat (ou s2 v) := y3 p hp hd2
            obtain ⟨z, z1, _, z3, z4, z5⟩ := cross g2 e2 f2 c1 hd2 up2.2
            have hzM := N.bd z z5
            have c2 := ih (M - num z) (by omega) z rfl z5 b (z4.trans hb)
            have c3 : Ch s1 p.toNat b := z1.trans c2
            have c4 : Ch s0 p.toNat z := hA3 _ hrp z z1
            obtain ⟨z', w1, w2, w3, w4, w5⟩ := cross (s1 := t1) (s2 := s0) (t := s0) (k := num v) G0 (fun u _ => rfl) (fun u hu => (f1 u hu).symm) c4 hd0 z3
            have n1 := (G0.num_le w4 (hA1 _ w5)).1
            have n2 := (G1.num_le c2 (d1 _ z5)).1
            have c5 := keyK N G0 hA1 hA2 (O1.fwd N F G1 d1) _ p.toNat rfl hrp z' b w2 c3 (by omega)
            exact w1.trans (Ch.same G1 (k := num v) (fun u hu => e1 u hu) c5 (d1 _ w5) w3)
      have hd1 : df t1 (ou s1 v) := x1
      exact .up h0 (Ch.same g1 (k := num v) (fun u hu => (e1 u hu).symm) low hd1 up1.2)
end Go.Proofs.Ytpmkkmahimdjkaa
