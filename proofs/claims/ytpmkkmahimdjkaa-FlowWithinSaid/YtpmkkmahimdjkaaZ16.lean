/-
  The document's order.
  The document's idom.
-/
import Derived.Test.YtpmkkmahimdjkaaZ15

/- The document's order. -/
namespace Go.Proofs.Ytpmkkmahimdjkaa
open Go.Wk
set_option linter.unusedVariables false
set_option linter.unusedSimpArgs false
attribute [local irreducible] G GC GQ GA GS Exit.then Exit.inBlock

abbrev fN (n : Nat) : List Value := [.int .i64 n]
def stOf (ks : List Nat) (stk : List Nat) : List (Nat × Nat) := stk.map fun i => (i, ks.getD i 0)
theorem stOf_app (ks a b : List Nat) : stOf ks (a ++ b) = stOf ks a ++ stOf ks b := by simp [stOf]
theorem getD_setN (ks : List Nat) (i u v : Nat) (h : i < ks.length) : (ks.set i v).getD u 0 = if u = i then v else ks.getD u 0 := by
  by_cases hu : u = i
  · subst hu; simp [List.getD, List.getElem?_set_self h]
  · simp [List.getD, List.getElem?_set_ne (Ne.symm hu), hu]
theorem stOf_set {ks ws : List Nat} {i v : Nat} (hi : i < ks.length) (h : i ∉ ws) : stOf (ks.set i v) ws = stOf ks ws := by
  unfold stOf
  refine List.map_congr_left (fun u hu => ?_)
  have hne : u ≠ i := fun e => h (by rw [← e]; exact hu)
  show (u, (ks.set i v).getD u 0) = _
  rw [getD_setN ks i u v hi, if_neg hne]
theorem DInv.lens {n : Nat} {es : Nat → List Int} {keys out : List Int} {st : List (Nat × Nat)} (h : DInv n es keys out st) : out.length + st.length ≤ n := by
  have h1 := h.nd
  have h2 : ((out ++ st.map (fun s : Nat × Nat => (s.1 : Int))).map Int.toNat).Nodup := by
    have h3 : ∀ k ∈ out ++ st.map (fun s : Nat × Nat => (s.1 : Int)), 0 ≤ k ∧ k < (n : Int) := fun k hk => by
      have : k ∈ keys := (h.key k).2 (by
        rcases List.mem_append.1 hk with h4 | h4
        · exact .inl h4
        · obtain ⟨s, h5, h6⟩ := List.mem_map.1 h4; exact .inr ⟨s, h5, h6.symm⟩)
      obtain ⟨u, e, hu, _⟩ := h.rch k this
      omega
    refine List.Pairwise.map _ (fun a b hab => ?_) (List.Pairwise.and_mem.1 h1)
    obtain ⟨ha, hb, hne⟩ := hab
    have := h3 a ha; have := h3 b hb
    omega
  have h4 := List.Nodup.length_le_of_subset (l₂ := List.range n) h2 (fun x hx => by
    obtain ⟨k, hk, rfl⟩ := List.mem_map.1 hx
    have : k ∈ keys := (h.key k).2 (by
      rcases List.mem_append.1 hk with h4 | h4
      · exact .inl h4
      · obtain ⟨s, h5, h6⟩ := List.mem_map.1 h4; exact .inr ⟨s, h5, h6.symm⟩)
    obtain ⟨u, e, hu, _⟩ := h.rch k this
    exact List.mem_range.2 (by omega))
  simpa using h4
theorem DInv.congr {n : Nat} {es : Nat → List Int} {keys keys' out : List Int} {st : List (Nat × Nat)} (h : DInv n es keys out st) (e : ∀ v, v ∈ keys' ↔ v ∈ keys) : DInv n es keys' out st where
  rng := h.rng
  key := fun v => (e v).trans (h.key v)
  nd := h.nd
  tree := h.tree
  par := h.par
  fin := fun u hu x hx => (e x).2 (h.fin u hu x hx)
  top := fun s hs x hx => (e x).2 (h.top s hs x hx)
  root := (e 0).2 h.root
  rch := fun v hv => h.rch v ((e v).1 hv)
  last := h.last

structure OS where
  out : List Int
  v5 : Value
  A5 : HL
  stk : List Nat
  v6 : Value
  A6 : HL
  bs : List Bool
  Ab : HL
  as' : List Nat
  Aa : HL
structure OInv (n : Nat) (es : Nat → List Int) (g ga : Nat) (y : OS) : Prop where
  o5 : OwnI y.v5 y.out y.A5
  o6 : OwnL 3 1 fN y.v6 y.stk y.A6
  ob : OwnL 4 1 fB (.slice (some ⟨g, 0, none⟩) n n) y.bs y.Ab
  oa : OwnL 3 1 fN (.slice (some ⟨ga, 0, none⟩) n n) y.as' y.Aa
  bl : y.bs.length = n
  al : y.as'.length = n
  d : DInv n es (toldN y.bs n) y.out (stOf y.as' y.stk)
  z : ∀ u, ¬ mk' y.bs u → y.as'.getD u 0 = 0
  bd : 2 * rem' n es (toldN y.bs n) + stW es (stOf y.as' y.stk) ≤ 1000000
theorem toldN_in (bs : List Bool) (n u : Nat) : (u : Int) ∈ toldN bs n ↔ u < n ∧ mk' bs u := by
  rw [toldN_mem]
  constructor
  · rintro ⟨v, e, h1, h2⟩
    have : v = u := by omega
    subst this; exact ⟨h1, h2⟩
  · rintro ⟨h1, h2⟩; exact ⟨u, rfl, h1, h2⟩
theorem pop_exN {l : List Nat} (h : 0 < l.length) : ∃ ws i, l = ws ++ [i] := ⟨_, _, (List.dropLast_concat_getLast (List.ne_nil_of_length_pos h)).symm⟩
theorem own_popN {ad : Option Addr} {cap : Nat} {ws : List Nat} {x : Nat} {A : HL} (h : OwnL 3 1 fN (.slice ad (ws ++ [x]).length cap) (ws ++ [x]) A) : OwnL 3 1 fN (.slice ad ws.length cap) ws A := by
  obtain ⟨g, cap', rest, hv, rfl, h3, h4, h5⟩ := Own.pos h (by simp)
  cases hv
  refine ⟨by rw [flat_len (f := fN) (sz := 1) (fun _ => rfl)], .inr ⟨g, cap, fN x ++ rest, rfl, by simp, by simp at h3; omega, h4, by simp at h5 ⊢; omega⟩⟩
theorem own_litN (g : Nat) (n : Nat) : OwnL 3 1 fN (.slice (some ⟨g, 0, none⟩) 1 1) [n] [(g, .cells ⟨[.int .i64 n]⟩ 3 (0, 0))] := ⟨rfl, .inr ⟨g, 1, [], rfl, rfl, Nat.le_refl _, by decide, rfl⟩⟩

set_option maxHeartbeats 16000000 in
theorem order_sp (code : List Ins) (vn : Value) (w : World) (hr : RdLL (hw w) vn (nexts code code.length)) (hn1 : 1 ≤ code.length) (hn : code.length ≤ 16384) :
    Sp Try.prog 52 [vn] w [] (fun y : Value × HL × List Int => y.1) (fun y => [y.2.1]) (fun y => OwnI y.1 y.2.2.reverse y.2.1 ∧ POrder (nxt code) y.2.2) := by
  obtain ⟨ad, cap, vals, rfl, hnr, hnvl, hnget⟩ := RdLL.get hr
  have hnl := nexts_length code
  refine enter (s := Try.sx) [] Try.func52 rfl rfl rfl (Eff.refl w) ?_
  repeat' (first | refine g_pv rfl rfl ?_ | refine g_nil ?_ | refine gq_then ?_ | refine gc_seq ?_ | refine gc_region ?_)
  refine g_eq 12 (u' := .int .i64 (code.length : Int)) rfl (by rw [hnl]) ?_
  refine g_make (n := code.length) (c := code.length) rfl rfl rfl rfl rfl (Nat.le_refl _) (by show 1 * _ ≤ _; omega) (by omega) rfl (fun g => ?_)
  have hob0 := own_bools g code.length (by unfold maxLen; omega)
  repeat' (first | refine g_pv rfl rfl ?_ | refine g_nil ?_ | refine gq_then ?_ | refine gc_seq ?_ | refine gc_region ?_)
  refine g_eq 15 (u' := .int .i64 (code.length : Int)) rfl (by rw [hnl]) ?_
  refine g_make (n := code.length) (c := code.length) rfl rfl rfl rfl rfl (Nat.le_refl _) (by show 8 * _ ≤ _; omega) (by omega) rfl (fun ga => ?_)
  have hoa0 := own_make (e := 3) (te := ⟨.int .i64, .int .i64 0, 1, 8⟩) (f := fN) (0 : Nat) rfl rfl ga code.length (by unfold maxLen; omega)
  repeat' (first | refine g_pv rfl rfl ?_ | refine g_nil ?_ | refine gq_then ?_ | refine gc_seq ?_ | refine gc_region ?_)
  refine g_heap (R' := [[], [(ga, .cells ⟨rep code.length [.int .i64 0]⟩ 3 (0, 0))], [(g, .cells ⟨rep code.length [.bool false]⟩ 4 (0, 0))]]) (fun w' H => hp_cnt (R := [[(ga, .cells ⟨rep code.length [.int .i64 0]⟩ 3 (0, 0))], [(g, .cells ⟨rep code.length [.bool false]⟩ 4 (0, 0))]]) [] H (fun a => by simp only [FM.hl, putC, Value.cells, List.cons_append, List.nil_append, List.set_cons_zero, List.set_cons_succ, List.flatten_append, List.flatten_cons, List.flatten_nil, List.count_append, List.count_cons, List.count_nil, List.append_nil, List.flatten_replicate_nil]; omega)) ?_
  refine g_app1L 0 (f := fN) (q := 0) rfl rfl rfl rfl rfl rfl rfl rfl rfl rfl rfl rfl (OwnL.nil _ _ _) (by decide) (by decide) rfl rfl (fun v6 A6 g6 ho6 => ?_)
  repeat' (first | refine g_pv rfl rfl ?_ | refine g_nil ?_ | refine gq_then ?_ | refine gc_seq ?_ | refine gc_region ?_)
  refine g_setL 2 (f := fB) (q := true) rfl rfl hob0 (fun _ => rfl) rfl rfl rfl rfl (by omega) (by simp; omega) rfl rfl rfl rfl rfl (fun _ A1 ho1 => ?_)
  repeat' (first | refine g_nil ?_ | refine gq_then ?_ | refine gc_seq ?_ | refine gc_block ?_)
  have hrem := rem_le (n := code.length) (m := 2) (es := nxt code) (fun u _ => nxt_len code u) (toldN ((List.replicate code.length false).set 0 true) code.length)
  have h0l := nxt_len code 0
  have hmk0 : ∀ u, mk' ((List.replicate code.length false).set 0 true) u ↔ u = 0 := fun u => by
    rw [mk_set (by simp; omega)]
    constructor
    · rintro (h | h)
      · exact h
      · simp only [mk', List.getD, List.getElem?_replicate] at h
        split at h <;> simp at h
    · exact .inl
  have hst0 : stOf (List.replicate code.length 0) [0] = [(0, 0)] := by
    simp only [stOf, List.map_cons, List.map_nil, List.getD, List.getElem?_replicate]
    split <;> rfl
  refine gc_loop (Y := OS) (OInv code.length (nxt code) g ga) (fun y => [(0, .slice ad (nexts code code.length).length cap), (3, .slice (some ⟨g, 0, none⟩) code.length code.length), (4, .slice (some ⟨ga, 0, none⟩) code.length code.length), (5, y.v5), (6, y.v6)]) (fun y => [y.A5, y.A6, y.Aa, y.Ab])
    (fun y => rem' code.length (nxt code) (toldN y.bs code.length) + stW (nxt code) (stOf y.as' y.stk)) ⟨[], .slice none 0 0, [], [0], v6, A6, (List.replicate code.length false).set 0 true, A1, List.replicate code.length 0, _⟩
    ⟨OwnL.nil _ _ _, ho6, ho1, hoa0, by simp, by simp, ?_, fun u hu => ?_, ?_⟩ ⟨rfl, rfl, rfl, rfl, rfl, trivial⟩ (fun w' H => hp_cnt (R := [A6, [(ga, .cells ⟨rep code.length [.int .i64 0]⟩ 3 (0, 0))], A1]) [] H (fun a => by simp only [FM.hl, putC, Value.cells, List.cons_append, List.nil_append, List.set_cons_zero, List.set_cons_succ, List.flatten_append, List.flatten_cons, List.flatten_nil, List.count_append, List.count_cons, List.count_nil, List.append_nil, List.flatten_replicate_nil]; omega)) ?_
  · show DInv code.length (nxt code) (toldN ((List.replicate code.length false).set 0 true) code.length) [] (stOf (List.replicate code.length 0) [0])
    rw [hst0]
    refine (DInv.start _ _ hn1).congr (fun v => ?_)
    rw [toldN_mem]
    constructor
    · rintro ⟨u, e, _, h2⟩
      have := (hmk0 u).1 h2
      subst this; simpa using e
    · intro h; simp at h; exact ⟨0, by simpa using h, by omega, (hmk0 0).2 rfl⟩
  · simp only [List.getD, List.getElem?_replicate]; split <;> rfl
  · show 2 * rem' code.length (nxt code) (toldN ((List.replicate code.length false).set 0 true) code.length) + stW (nxt code) (stOf (List.replicate code.length 0) [0]) ≤ _
    rw [hst0, stW_one]; simp only; omega
  rintro ⟨out, v5, A5, stk, v6, A6, bs, Ab, as', Aa⟩ hI
  have ho5 : OwnI v5 out A5 := hI.o5
  have ho6 : OwnL 3 1 fN v6 stk A6 := hI.o6
  have hob : OwnL 4 1 fB (.slice (some ⟨g, 0, none⟩) code.length code.length) bs Ab := hI.ob
  have hoa : OwnL 3 1 fN (.slice (some ⟨ga, 0, none⟩) code.length code.length) as' Aa := hI.oa
  have hbl : bs.length = code.length := hI.bl
  have hal : as'.length = code.length := hI.al
  have hd : DInv code.length (nxt code) (toldN bs code.length) out (stOf as' stk) := hI.d
  have hz : ∀ u, ¬ mk' bs u → as'.getD u 0 = 0 := hI.z
  have hbd : 2 * rem' code.length (nxt code) (toldN bs code.length) + stW (nxt code) (stOf as' stk) ≤ 1000000 := hI.bd
  have hlens := hd.lens
  have hsl : (stOf as' stk).length = stk.length := by simp [stOf]
  clear hI
  dsimp only
  repeat' (first | refine g_pv rfl rfl ?_ | refine gc_seq ?_ | refine gc_region ?_)
  refine g_lenL rfl ho6 rfl rfl ?_
  repeat' (first | refine g_pv rfl rfl ?_ | refine g_nil ?_ | refine gq_then ?_)
  refine gc_condC rfl (fun hc => ?_) (fun hc => ?_)
  · have hpos : 0 < stk.length := by have := of_decide_eq_true hc; omega
    obtain ⟨ws, i, rfl⟩ := pop_exN hpos
    obtain ⟨g6, cap6, rst, hv6, _, hcap6, _, _⟩ := Own.pos ho6 hpos
    subst hv6
    have hwl : (ws ++ [i]).length = ws.length + 1 := by simp
    have e17 : some (Value.int IntKind.i64 (IntKind.i64.wrap (((ws ++ [i]).length : Int) - 1))) = some (Value.int .i64 (ws.length : Int)) := by
      rw [hwl, IntKind.wrap_i64]; congr 2; omega
    have hso : stOf as' (ws ++ [i]) = stOf as' ws ++ [(i, as'.getD i 0)] := by rw [stOf_app]; rfl
    rw [hso] at hd hbd
    have hrng := hd.rng (i, as'.getD i 0) (by simp)
    have hin : i < code.length := hrng.1
    have hka : as'[i]? = some (as'.getD i 0) := by simp [List.getD, List.getElem?_eq_getElem (show i < as'.length by omega)]
    have hiw : i ∉ ws := fun h => by
      have hnd := hd.nd
      rw [List.map_append, ← List.append_assoc, List.nodup_append] at hnd
      exact hnd.2.2 (i : Int) (List.mem_append_right _ (List.mem_map.2 ⟨(i, as'.getD i 0), List.mem_map.2 ⟨i, h, rfl⟩, rfl⟩)) (i : Int) (by simp) rfl
    generalize hkk : as'.getD i 0 = k at hd hbd hrng hka
    have hkl : k ≤ (nxt code i).length := hrng.2
    have hnl2 := nxt_len code i
    obtain ⟨u, hu, uad, ucap, hue, hur⟩ := hnget i (nxt code i) (by simp [nexts, hin])
    subst hue
    have hso2 : ∀ v, stOf (as'.set i v) (ws ++ [i]) = stOf as' ws ++ [(i, v)] := fun v => by
      rw [stOf_app, stOf_set (by omega) hiw]
      show _ ++ [(i, (as'.set i v).getD i 0)] = _
      rw [getD_setN as' i i v (by omega), if_pos rfl]
    repeat' (first | refine g_pv rfl rfl ?_ | refine gq_then ?_ | refine gc_seq ?_ | refine gc_region ?_ | refine gc_block ?_ | refine gc_skip ?_)
    refine g_eq 28 rfl (Option.some.inj e17) ?_
    refine g_atL 1 (f := fN) (q := i) rfl rfl ho6 (fun _ => rfl) rfl rfl rfl rfl (Int.natCast_nonneg _) (by simp) rfl rfl rfl (fun _ => ?_)
    repeat' (first | refine g_pv rfl rfl ?_ | refine g_nil ?_ | refine gq_then ?_ | refine gc_seq ?_)
    refine gc_draw [A5, A6, Aa, Ab] [] rfl (by simp) ?_
    (refine ga_p 0 (by repeat first | exact NoP.sp | apply NoP.then | apply NoP.block) rfl (pv_spec rfl) rfl (by kernel_rfl) (by kernel_rfl) (by kernel_rfl) ?_); (refine ga_p 1 (by repeat first | exact NoP.sp | apply NoP.then | apply NoP.block) rfl (pv_spec rfl) rfl (by kernel_rfl) (by kernel_rfl) (by kernel_rfl) ?_)
    refine ga_at 2 3 (l := as') (f := fN) (u := k) (by repeat first | exact NoP.sp | apply NoP.then | apply NoP.block) rfl wanted_none rfl (fun a _ => wanted_none a) rfl rfl rfl rfl rfl (Int.natCast_nonneg i) (by omega) (still_rd 2 rfl (fun _ => rfl) hoa rfl) hka rfl rfl rfl rfl (by kernel_rfl) (by kernel_rfl) (by kernel_rfl) (by kernel_rfl) (by kernel_rfl) (fun _ => ?_)
    (refine ga_p 4 (by repeat first | exact NoP.sp | apply NoP.then | apply NoP.block) rfl (pv_spec rfl) rfl (by kernel_rfl) (by kernel_rfl) (by kernel_rfl) ?_); (refine ga_p 5 (by repeat first | exact NoP.sp | apply NoP.then | apply NoP.block) rfl (pv_spec rfl) rfl (by kernel_rfl) (by kernel_rfl) (by kernel_rfl) ?_)
    refine ga_at 6 7 (l := vals) (f := fV) (u := .slice uad (nxt code i).length ucap) (by repeat first | exact NoP.sp | apply NoP.then | apply NoP.block) rfl wanted_none rfl (fun a _ => wanted_none a) rfl rfl rfl rfl rfl (Int.natCast_nonneg i) (by omega) (still_rdO (hnr.le (old_le0 _ w))) hu rfl rfl rfl rfl (by kernel_rfl) (by kernel_rfl) (by kernel_rfl) (by kernel_rfl) (by kernel_rfl) (fun _ => ?_)
    (refine ga_p 8 (by repeat first | exact NoP.sp | apply NoP.then | apply NoP.block) rfl (pv_spec rfl) rfl (by kernel_rfl) (by kernel_rfl) (by kernel_rfl) ?_); (refine ga_p 9 (by repeat first | exact NoP.sp | apply NoP.then | apply NoP.block) rfl (pv_spec rfl) rfl (by kernel_rfl) (by kernel_rfl) (by kernel_rfl) ?_)
    refine ga_nil (by kernel_rfl) ?_
    repeat' (refine gq_then ?_)
    refine gc_condC rfl (fun hq => ?_) (fun hq => ?_)
    · have hke : k = (nxt code i).length := by have := beq_iff_eq.1 hq; omega
      subst hke
      repeat' (first | refine g_pv rfl rfl ?_ | refine gc_seq ?_ | refine gc_region ?_)
      refine g_app1L 0 (f := fI) (q := (i : Int)) rfl rfl rfl rfl rfl rfl rfl rfl rfl rfl rfl rfl ho5 (by unfold maxLen; omega) (by show _ * 8 ≤ _; omega) rfl rfl (fun v4 A4 g4 ho4 => ?_)
      repeat' (first | refine g_pv rfl rfl ?_ | refine g_nil ?_ | refine gq_then ?_ | refine gc_seq ?_ | refine gc_region ?_)
      refine g_eq 48 rfl (Option.some.inj e17) ?_
      refine g_hi rfl rfl rfl rfl (by rw [hwl] at hcap6; omega) rfl ?_
      repeat' (first | refine g_pv rfl rfl ?_ | refine g_nil ?_ | refine gq_then ?_ | refine gc_exit ?_ | refine gq_then_exit ?_ | refine gq_block_exit ?_)
      have hw1 := stW_app (nxt code) (stOf as' ws) [(i, (nxt code i).length)]
      rw [stW_one] at hw1
      refine gq_again ⟨out ++ [(i : Int)], v4, A4, ws, _, A6, bs, Ab, as', Aa⟩ ⟨ho4, own_popN ho6, hob, hoa, hbl, hal, hd.pop, hz, by simp only at hw1 ⊢; omega⟩ (by simp only [hso, hkk] at hw1 ⊢; omega) ⟨rfl, rfl, rfl, rfl, rfl, trivial⟩ (fun w' H => H)
    have hkne : (k : Int) ≠ ((nxt code i).length : Int) := by simpa using hq
    have hklt : k < (nxt code i).length := by omega
    have hkx : (nxt code i)[k]? = some (nxt code i)[k] := List.getElem?_eq_getElem hklt
    have hkin := nxt_in code i _ (List.getElem_mem hklt)
    have hskip := hd.skip hklt
    have hpush := fun (keys' : List Int) (x : Nat) => hd.push (keys' := keys') (x := x) hklt
    generalize (nxt code i)[k] = x at hkx hkin hskip hpush
    obtain ⟨xn, rfl⟩ : ∃ xn : Nat, x = xn := ⟨x.toNat, by omega⟩
    repeat' (first | refine gq_then ?_ | refine gc_seq ?_ | refine gc_skip ?_)
    refine gc_draw [A5, A6, Aa, Ab] [] rfl (by simp) ?_
    (refine ga_p 0 (by repeat first | exact NoP.sp | apply NoP.then | apply NoP.block) rfl (pv_spec rfl) rfl (by kernel_rfl) (by kernel_rfl) (by kernel_rfl) ?_); (refine ga_p 1 (by repeat first | exact NoP.sp | apply NoP.then | apply NoP.block) rfl (pv_spec rfl) rfl (by kernel_rfl) (by kernel_rfl) (by kernel_rfl) ?_)
    refine ga_at 2 3 (l := vals) (f := fV) (u := .slice uad (nxt code i).length ucap) (by repeat first | exact NoP.sp | apply NoP.then | apply NoP.block) rfl wanted_none rfl (fun a _ => wanted_none a) rfl rfl rfl rfl rfl (Int.natCast_nonneg i) (by omega) (still_rdO (hnr.le (old_le0 _ w))) hu rfl rfl rfl rfl (by kernel_rfl) (by kernel_rfl) (by kernel_rfl) (by kernel_rfl) (by kernel_rfl) (fun _ => ?_)
    (refine ga_p 4 (by repeat first | exact NoP.sp | apply NoP.then | apply NoP.block) rfl (pv_spec rfl) rfl (by kernel_rfl) (by kernel_rfl) (by kernel_rfl) ?_); (refine ga_p 5 (by repeat first | exact NoP.sp | apply NoP.then | apply NoP.block) rfl (pv_spec rfl) rfl (by kernel_rfl) (by kernel_rfl) (by kernel_rfl) ?_)
    refine ga_at 6 7 (l := as') (f := fN) (u := k) (by repeat first | exact NoP.sp | apply NoP.then | apply NoP.block) rfl wanted_none rfl (fun a _ => wanted_none a) rfl rfl rfl rfl rfl (Int.natCast_nonneg i) (by omega) (still_rd 2 rfl (fun _ => rfl) hoa rfl) hka rfl rfl rfl rfl (by kernel_rfl) (by kernel_rfl) (by kernel_rfl) (by kernel_rfl) (by kernel_rfl) (fun _ => ?_)
    refine ga_at 8 9 (l := nxt code i) (f := fI) (u := (xn : Int)) (by repeat first | exact NoP.sp | apply NoP.then | apply NoP.block) rfl wanted_none rfl (fun a _ => wanted_none a) rfl rfl rfl rfl rfl (Int.natCast_nonneg k) (by omega) (still_rdO (hur.le (old_le0 _ w))) hkx rfl rfl rfl rfl (by kernel_rfl) (by kernel_rfl) (by kernel_rfl) (by kernel_rfl) (by kernel_rfl) (fun _ => ?_)
    (refine ga_p 10 (by repeat first | exact NoP.sp | apply NoP.then | apply NoP.block) rfl (pv_spec rfl) rfl (by kernel_rfl) (by kernel_rfl) (by kernel_rfl) ?_)
    refine ga_nil (by kernel_rfl) ?_
    repeat' (first | refine g_pv rfl rfl ?_ | refine gq_then ?_ | refine gc_seq ?_ | refine gc_region ?_)
    refine g_atL 2 (f := fN) (q := k) rfl rfl hoa (fun _ => rfl) rfl rfl rfl rfl (Int.natCast_nonneg i) (by simpa using hka) rfl rfl rfl (fun _ => ?_)
    repeat' (refine g_pv rfl rfl ?_)
    refine g_eq 64 (u' := .int .i64 ((k + 1 : Nat) : Int)) rfl (Option.some.inj (inc_eq (by omega))) ?_
    refine g_setL 2 (f := fN) (q := k + 1) rfl rfl hoa (fun _ => rfl) rfl rfl rfl rfl (Int.natCast_nonneg i) (by omega) rfl rfl rfl rfl rfl (fun _ Aa2 hoa2 => ?_)
    rw [Int.toNat_natCast] at hoa2
    have hxn : xn < code.length := by omega
    have hbx := getD_some (bs := bs) (i := xn) (by omega)
    have hal2 : (as'.set i (k + 1)).length = code.length := by simpa using hal
    have hmi : mk' bs i := by
      have := (hd.key (i : Int)).2 (.inr ⟨(i, k), by simp, rfl⟩)
      exact ((toldN_in bs code.length i).1 this).2
    have hz2 : ∀ u, ¬ mk' bs u → (as'.set i (k + 1)).getD u 0 = 0 := fun u hu => by
      rw [getD_setN as' i u (k + 1) (by omega), if_neg (fun e => hu (by rw [e]; exact hmi))]
      exact hz u hu
    have hw1 := stW_app (nxt code) (stOf as' ws) [(i, k)]
    have hw2 := stW_app (nxt code) (stOf as' ws) [(i, k + 1)]
    rw [stW_one] at hw1 hw2
    simp only at hw1 hw2
    have hso3 := hso2 (k + 1)
    repeat' (first | refine g_pv rfl rfl ?_ | refine g_nil ?_ | refine gq_then ?_ | refine gc_seq ?_ | refine gc_region ?_)
    refine g_atL 3 (f := fB) (q := bs.getD xn false) rfl rfl hob (fun _ => rfl) rfl rfl rfl rfl (Int.natCast_nonneg xn) (by simpa using hbx) rfl rfl rfl (fun _ => ?_)
    repeat' (first | refine g_pv rfl rfl ?_ | refine g_nil ?_ | refine gq_then ?_)
    refine gc_condC rfl (fun hm => ?_) (fun hm => ?_)
    · have hm' : ¬ mk' bs xn := by unfold mk'; simpa using hm
      have hmem : ∀ v, v ∈ toldN (bs.set xn true) code.length ↔ v = (xn : Int) ∨ v ∈ toldN bs code.length := fun v => by
        rw [toldN_mem, toldN_mem]
        constructor
        · rintro ⟨u, e, h1, h2⟩
          rcases (mk_set (by omega)).1 h2 with h3 | h3
          · subst h3; exact .inl e
          · exact .inr ⟨u, e, h1, h3⟩
        · rintro (h | ⟨u, e, h1, h2⟩)
          · exact ⟨xn, h, hxn, (mk_set (by omega)).2 (.inl rfl)⟩
          · exact ⟨u, e, h1, (mk_set (by omega)).2 (.inr h2)⟩
      have hxk : (xn : Int) ∉ toldN bs code.length := fun h => hm' ((toldN_in bs code.length xn).1 h).2
      have hremx := rem_add (es := nxt code) hxk hmem (n := code.length) hxn
      have hw3 := stW_app (nxt code) (stOf as' ws ++ [(i, k + 1)]) [(xn, 0)]
      rw [stW_one] at hw3
      simp only at hw3
      have hso4 : stOf (as'.set i (k + 1)) (ws ++ [i] ++ [xn]) = stOf as' ws ++ [(i, k + 1)] ++ [(xn, 0)] := by
        rw [stOf_app, hso3]
        show _ ++ [(xn, (as'.set i (k + 1)).getD xn 0)] = _
        rw [hz2 xn hm']
      repeat' (first | refine g_pv rfl rfl ?_ | refine gc_seq ?_ | refine gc_region ?_)
      refine g_setL 3 (f := fB) (q := true) rfl rfl hob (fun _ => rfl) rfl rfl rfl rfl (Int.natCast_nonneg xn) (by omega) rfl rfl rfl rfl rfl (fun _ Ab2 hob2 => ?_)
      rw [Int.toNat_natCast] at hob2
      repeat' (first | refine g_pv rfl rfl ?_ | refine g_nil ?_ | refine gq_then ?_ | refine gc_region ?_)
      refine g_app1L 1 (f := fN) (q := xn) rfl rfl rfl rfl rfl rfl rfl rfl rfl rfl rfl rfl ho6 (by unfold maxLen; omega) (by show _ * 8 ≤ _; omega) rfl rfl (fun v4 A4 g4 ho4 => ?_)
      repeat' (first | refine g_pv rfl rfl ?_ | refine g_nil ?_ | refine gq_block ?_)
      refine gq_again ⟨out, v5, A5, ws ++ [i] ++ [xn], v4, A4, bs.set xn true, Ab2, as'.set i (k + 1), Aa2⟩ ⟨ho5, ho4, hob2, hoa2, by simpa using hbl, hal2, by simp only; rw [hso4]; exact hpush _ xn rfl hxn hxk hmem, fun u hu => hz2 u (fun h => hu ((mk_set (by omega)).2 (.inr h))), by simp only; rw [hso4]; omega⟩ (by simp only; rw [hso4, hso, hkk]; omega) ⟨rfl, rfl, rfl, rfl, rfl, trivial⟩ (fun w' H => H)
    · have hm' : mk' bs xn := by unfold mk'; simpa using hm
      repeat' (first | refine gc_skip ?_ | refine gq_block ?_)
      refine gq_again ⟨out, v5, A5, ws ++ [i], _, A6, bs, Ab, as'.set i (k + 1), Aa2⟩ ⟨ho5, ho6, hob, hoa2, hbl, hal2, by simp only; rw [hso3]; exact hskip ((toldN_in bs code.length xn).2 ⟨hxn, hm'⟩), hz2, by simp only; rw [hso3]; omega⟩ (by simp only; rw [hso3, hso, hkk]; omega) ⟨rfl, rfl, rfl, rfl, rfl, trivial⟩ (fun w' H => H)
  · have h0 : stk = [] := List.eq_nil_of_length_eq_zero (by have := of_decide_eq_false hc; omega)
    subst h0
    have hP : POrder (nxt code) out := DInv.done hd
    have hol : out.length ≤ code.length := by omega
    clear hd hz hbd hlens hsl
    repeat' (first | refine g_pv rfl rfl ?_ | refine g_nil ?_ | refine gq_then ?_ | refine gc_seq ?_ | refine gc_region ?_ | refine gc_exit ?_ | refine gq_then_exit ?_ | refine gq_block_exit ?_)
    refine g_lenL rfl ho5 rfl rfl ?_
    repeat' (first | refine g_pv rfl rfl ?_ | refine g_nil ?_ | refine gq_then ?_ | refine gc_block ?_)
    refine gc_loop (Y := Nat × Value × HL) (fun y => y.1 ≤ out.length ∧ OwnI y.2.1 (out.reverse.take y.1) y.2.2) (fun y => [(5, v5), (9, y.2.1), (10, .int .i64 ((out.length : Int) - 1 - y.1))]) (fun y => [y.2.2, A5])
      (fun y => out.length - y.1) (0, .slice none 0 0, []) ⟨Nat.zero_le _, OwnL.nil _ _ _⟩ ⟨rfl, rfl, ?_, trivial⟩ (fun w' H => hp_cnt (R := [A5, A6, Aa, Ab]) (A6 ++ Aa ++ Ab) H (fun a => by simp only [FM.hl, putC, Value.cells, List.cons_append, List.nil_append, List.set_cons_zero, List.set_cons_succ, List.flatten_append, List.flatten_cons, List.flatten_nil, List.count_append, List.count_cons, List.count_nil, List.append_nil, List.flatten_replicate_nil]; omega)) ?_
    · exact congrArg (fun z => some (Value.int .i64 z)) (by rw [IntKind.wrap_i64]; simp; omega)
    rintro ⟨k, v9, A9⟩ ⟨hk, ho9⟩
    try dsimp only at hk ho9 ⊢
    repeat' (first | refine g_pv rfl rfl ?_ | refine g_nil ?_ | refine gq_then ?_ | refine gc_seq ?_ | refine gc_region ?_)
    refine gc_condC rfl (fun hq => ?_) (fun hq => ?_)
    · have hklt : k < out.length := by have := of_decide_eq_true hq; omega
      have hget : out[out.length - 1 - k]? = some out[out.length - 1 - k] := List.getElem?_eq_getElem (by omega)
      have hrev : out.reverse[k]? = some out[out.length - 1 - k] := by rw [List.getElem?_reverse hklt]; exact hget
      have htk : out.reverse.take (k + 1) = out.reverse.take k ++ [out[out.length - 1 - k]] := by
        rw [List.take_add_one, hrev]; rfl
      have e3 : ((out.length : Int) - 1 - k) = ((out.length - 1 - k : Nat) : Int) := by omega
      generalize out[out.length - 1 - k] = x at hget hrev htk
      have hl9 : (out.reverse.take k).length ≤ 16384 := by rw [List.length_take]; omega
      repeat' (first | refine g_pv rfl rfl ?_ | refine gq_then ?_ | refine gc_seq ?_ | refine gc_region ?_ | refine gc_block ?_ | refine gc_skip ?_)
      refine g_atL 1 (f := fI) (q := x) rfl rfl ho5 (fun _ => rfl) rfl rfl rfl rfl (by omega) (by rw [e3, Int.toNat_natCast]; exact hget) rfl rfl rfl (fun _ => ?_)
      repeat' (fail)
      refine g_app1L 0 (f := fI) (q := x) rfl rfl rfl rfl rfl rfl rfl rfl rfl rfl rfl rfl ho9 (by unfold maxLen; omega) (by show _ * 8 ≤ _; omega) rfl rfl (fun v4 A4 g4 ho4 => ?_)
      repeat' (first | refine g_pv rfl rfl ?_ | refine g_nil ?_ | refine gq_then ?_ | refine gc_region ?_ | refine gq_block ?_)
      refine gq_again (k + 1, v4, A4) ⟨hklt, by simp only; rw [htk]; exact ho4⟩ (by simp only; omega) ⟨rfl, rfl, ?_, trivial⟩ (fun w' H => H)
      exact congrArg (fun z => some (Value.int .i64 z)) (by rw [IntKind.wrap_i64]; omega)
    · have hke : k = out.length := by have := of_decide_eq_false hq; omega
      subst hke
      rw [List.take_of_length_le (by simp)] at ho9
      repeat' (first | refine g_pv rfl rfl ?_ | refine g_nil ?_ | refine gq_then ?_ | refine gc_seq ?_ | refine gc_region ?_ | refine gc_exit ?_ | refine gc_ret ?_ | refine gq_then_exit ?_ | refine gq_block_exit ?_)
      exact gq_ret1 (.inr rfl) rfl rfl rfl (fun w' H => ⟨(v9, A9, out), ⟨ho9, hP⟩, rfl, hp_take 0 rfl (fun H => hp_nil H) H⟩)
end Go.Proofs.Ytpmkkmahimdjkaa

/- The document's idom. -/
namespace Go.Proofs.Ytpmkkmahimdjkaa
open Go.Wk
set_option linter.unusedVariables false
set_option linter.unusedSimpArgs false
attribute [local irreducible] G GC GQ GA GS Exit.then Exit.inBlock

theorem POrder.len {code : List Ins} {post : List Int} (hP : POrder (nxt code) post) (hn : 0 < code.length) : post.length ≤ code.length := by
  have F := frOf_fr code hn
  have h1 : (post.map Int.toNat).Nodup := by
    refine List.Pairwise.map _ (fun a b hab => ?_) (List.Pairwise.and_mem.1 hP.nodup)
    obtain ⟨ha, hb, hne⟩ := hab
    obtain ⟨u, rfl, _⟩ := (hP.mem a).1 ha
    obtain ⟨v, rfl, _⟩ := (hP.mem b).1 hb
    omega
  have h2 := List.Nodup.length_le_of_subset (l₂ := List.range code.length) h1 (fun x hx => by
    obtain ⟨k, hk, rfl⟩ := List.mem_map.1 hx
    obtain ⟨u, rfl, hu⟩ := (hP.mem k).1 hk
    exact List.mem_range.2 (by have := F.lt u hu; simpa using this))
  simpa using h2
theorem POrder.rev0 {es : Nat → List Int} {post : List Int} (hP : POrder es post) : post.reverse[0]? = some 0 := by
  obtain ⟨o, rfl⟩ := hP.last
  simp
theorem POrder.revne {es : Nat → List Int} {post : List Int} (hP : POrder es post) {i : Nat} {x : Int} (hi : 0 < i) (h : post.reverse[i]? = some x) : x ≠ 0 := fun h0 => by
  have hnd : post.reverse.Nodup := (List.Perm.nodup_iff (List.reverse_perm post)).2 hP.nodup
  obtain ⟨h1, h2⟩ := List.getElem?_eq_some_iff.1 h
  obtain ⟨h3, h4⟩ := List.getElem?_eq_some_iff.1 hP.rev0
  exact List.pairwise_iff_getElem.1 hnd 0 i h3 h1 hi (by rw [h4, h2, h0])
theorem POrder.place {es : Nat → List Int} {post : List Int} (hP : POrder es post) {v : Nat} (hv : R0 es v) : post.reverse[post.length - 1 - numP post v]? = some (v : Int) := by
  have hm := (hP.mem (v : Int)).2 ⟨v, rfl, hv⟩
  have h1 := List.idxOf_lt_length_of_mem hm
  have h2 : numP post v < post.length := h1
  rw [List.getElem?_reverse (by omega), show post.length - 1 - (post.length - 1 - numP post v) = numP post v from by omega]
  unfold numP
  rw [List.getElem?_eq_getElem h1, List.getElem_idxOf]
theorem getD_setZ (ls : List Int) (i u : Nat) (x : Int) (h : i < ls.length) : (ls.set i x).getD u 0 = if u = i then x else ls.getD u 0 := by
  by_cases hu : u = i
  · subst hu; simp [List.getD, List.getElem?_set_self h]
  · simp [List.getD, List.getElem?_set_ne (Ne.symm hu), hu]

set_option maxHeartbeats 32000000 in
theorem ridom_sp (code : List Ins) (vn : Value) (w : World) (hr : RdLL (hw w) vn (nexts code code.length)) (hn1 : 1 ≤ code.length) (hn : code.length ≤ 16384) :
    Sp Try.prog 40 [vn] w [] (fun y : Value × HL × List Int => y.1) (fun y => [y.2.1]) (fun y => OwnI y.1 y.2.2 y.2.1 ∧ IsIdom (nxt code) code.length y.2.2) := by
  have hr0 := hr
  obtain ⟨ad, cap, vals, rfl, -, -, -⟩ := RdLL.get hr
  have hnl := nexts_length code
  have F := frOf_fr code hn1
  have hfl : (fromsAt code code.length).length = code.length := fromsAt_length _ _
  refine enter (s := Try.sx) [] Try.func40 rfl rfl rfl (Eff.refl w) ?_
  repeat' (first | refine g_pv rfl rfl ?_ | refine g_nil ?_ | refine gq_then ?_ | refine gc_seq ?_ | refine gc_region ?_)
  refine g_call rfl (Cl.of Try.func52 rfl rfl) rfl rfl (fun w' hE => order_sp code _ w' (hr0.le (fun b o h => old_le hE b o (old_le0 _ w b o h))) hn1 hn) rfl ?_
  rintro ⟨vl, Al, post⟩ ⟨hol, hP⟩
  dsimp only at hol hP ⊢
  have N := hP.num
  have O := hP.ord
  have hpl := hP.len hn1
  have hrl : post.reverse.length = post.length := List.length_reverse
  obtain ⟨adl, capl, rfl, _⟩ := Own.shape hol
  repeat' (first | refine g_pv rfl rfl ?_ | refine g_nil ?_ | refine gq_then ?_ | refine gc_seq ?_ | refine gc_region ?_)
  refine g_eq 19 (u' := .int .i64 (code.length : Int)) rfl (by rw [hnl]) ?_
  refine g_make (n := code.length) (c := code.length) rfl rfl rfl rfl rfl (Nat.le_refl _) (by show 8 * _ ≤ _; omega) (by omega) rfl (fun gp => ?_)
  have hop := own_make (e := 3) (te := ⟨.int .i64, .int .i64 0, 1, 8⟩) (f := fI) (0 : Int) rfl rfl gp code.length (by unfold maxLen; omega)
  repeat' (first | refine g_pv rfl rfl ?_ | refine g_nil ?_ | refine gq_then ?_ | refine gc_seq ?_ | refine gc_region ?_)
  refine g_eq 22 (u' := .int .i64 (code.length : Int)) rfl (by rw [hnl]) ?_
  refine g_make (n := code.length) (c := code.length) rfl rfl rfl rfl rfl (Nat.le_refl _) (by show 8 * _ ≤ _; omega) (by omega) rfl (fun go => ?_)
  have hoo := own_make (e := 3) (te := ⟨.int .i64, .int .i64 0, 1, 8⟩) (f := fI) (0 : Int) rfl rfl go code.length (by unfold maxLen; omega)
  repeat' (first | refine g_pv rfl rfl ?_ | refine g_nil ?_ | refine gq_then ?_ | refine gc_seq ?_ | refine gc_region ?_ | refine gc_block ?_)
  refine gc_loop (Y := Nat × HL) (fun y => y.1 ≤ code.length ∧ OwnI (.slice (some ⟨go, 0, none⟩) code.length code.length) (List.replicate y.1 (-1) ++ List.replicate (code.length - y.1) 0) y.2)
    (fun y => [(0, .slice ad (nexts code code.length).length cap), (3, .slice adl post.reverse.length capl), (4, .slice (some ⟨gp, 0, none⟩) code.length code.length), (5, .slice (some ⟨go, 0, none⟩) code.length code.length), (6, .int .i64 y.1)])
    (fun y => [y.2, [(gp, .cells ⟨rep code.length [.int .i64 0]⟩ 3 (0, 0))], Al])
    (fun y => code.length - y.1) (0, _) ⟨Nat.zero_le _, hoo⟩ ⟨rfl, rfl, rfl, rfl, rfl, trivial⟩ (fun w' H => H) ?_
  rintro ⟨i, Ao⟩ ⟨hi, ho⟩
  try dsimp only at hi ho ⊢
  repeat' (first | refine g_pv rfl rfl ?_ | refine g_nil ?_ | refine gq_then ?_ | refine gc_seq ?_ | refine gc_region ?_)
  refine gc_condC rfl (fun hc => ?_) (fun hc => ?_)
  · have hlt : i < code.length := by have := of_decide_eq_true hc; omega
    repeat' (first | refine g_pv rfl rfl ?_ | refine gq_then ?_ | refine gc_seq ?_ | refine gc_region ?_ | refine gc_block ?_ | refine gc_skip ?_)
    refine g_setL 0 (f := fI) (q := (-1 : Int)) rfl rfl ho (fun _ => rfl) rfl rfl rfl rfl (Int.natCast_nonneg i) (by simp; omega) rfl rfl rfl rfl rfl (fun _ A1 ho1 => ?_)
    repeat' (first | refine g_pv rfl rfl ?_ | refine g_nil ?_ | refine gq_then ?_ | refine gc_region ?_ | refine gq_block ?_)
    refine gq_again (i + 1, A1) ⟨hlt, ?_⟩ (by simp only; omega) ⟨rfl, rfl, rfl, rfl, inc_eq (by omega), trivial⟩ (fun w' H => H)
    have e : (List.replicate i (-1 : Int) ++ List.replicate (code.length - i) 0).set (i : Int).toNat (-1) = List.replicate (i + 1) (-1) ++ List.replicate (code.length - (i + 1)) 0 := by
      rw [Int.toNat_natCast, List.set_append_right _ _ (by simp), show code.length - i = (code.length - (i + 1)) + 1 from by omega, List.replicate_succ (n := code.length - (i + 1))]
      simp [List.replicate_succ']
    rw [e] at ho1; exact ho1
  have hin : i = code.length := by have := of_decide_eq_false hc; omega
  rw [hin] at ho
  simp only [Nat.sub_self, List.replicate_zero, List.append_nil] at ho
  clear hc hi hoo hin
  repeat' (first | refine g_pv rfl rfl ?_ | refine g_nil ?_ | refine gq_then ?_ | refine gc_seq ?_ | refine gc_region ?_ | refine gc_block ?_ | refine gc_exit ?_ | refine gq_then_exit ?_ | refine gq_block_exit ?_)
  refine gc_loop (Y := Nat × List Int × HL) (fun y => y.1 ≤ post.length ∧ y.2.1.length = code.length ∧ OwnI (.slice (some ⟨gp, 0, none⟩) code.length code.length) y.2.1 y.2.2 ∧ ∀ j x, j < y.1 → post.reverse[j]? = some x → y.2.1.getD x.toNat 0 = (j : Nat))
    (fun y => [(0, .slice ad (nexts code code.length).length cap), (3, .slice adl post.reverse.length capl), (4, .slice (some ⟨gp, 0, none⟩) code.length code.length), (5, .slice (some ⟨go, 0, none⟩) code.length code.length), (7, .int .i64 y.1)])
    (fun y => [Ao, y.2.2, Al])
    (fun y => post.length - y.1) (0, List.replicate code.length 0, _) ⟨Nat.zero_le _, by simp, hop, fun j x h => (by omega)⟩ ⟨rfl, rfl, rfl, rfl, rfl, trivial⟩ (fun w' H => H) ?_
  rintro ⟨k, pl, Ap⟩ ⟨hk, hpll, hop2, hpk⟩
  try dsimp only at hk hpll hop2 hpk ⊢
  repeat' (first | refine g_pv rfl rfl ?_ | refine g_nil ?_ | refine gq_then ?_ | refine gc_seq ?_ | refine gc_region ?_)
  refine gc_condC rfl (fun hc => ?_) (fun hc => ?_)
  · have hlt : k < post.length := by have := of_decide_eq_true hc; omega
    have hxk : post.reverse[k]? = some (post.reverse[k]'(by omega)) := List.getElem?_eq_getElem (by omega)
    have hnd : post.reverse.Nodup := (List.Perm.nodup_iff (List.reverse_perm post)).2 hP.nodup
    obtain ⟨v, hv, hvr⟩ := (hP.mem (post.reverse[k]'(by omega))).1 (by rw [← List.mem_reverse]; exact List.getElem_mem _)
    rw [hv] at hxk
    have hvn := F.lt v hvr
    have hne : ∀ j x, j < k → post.reverse[j]? = some x → x.toNat ≠ v := fun j x hj hx he => by
      obtain ⟨u, e, _⟩ := (hP.mem x).1 (by rw [← List.mem_reverse]; exact List.mem_of_getElem? hx)
      obtain ⟨h1, h2⟩ := List.getElem?_eq_some_iff.1 hx
      obtain ⟨h3, h4⟩ := List.getElem?_eq_some_iff.1 hxk
      exact List.pairwise_iff_getElem.1 hnd j k h1 h3 hj (by rw [h2, h4]; omega)
    repeat' (first | refine g_pv rfl rfl ?_ | refine gq_then ?_ | refine gc_seq ?_ | refine gc_region ?_ | refine gc_block ?_ | refine gc_skip ?_)
    refine g_atL 2 (f := fI) (q := (v : Int)) rfl rfl hol (fun _ => rfl) rfl rfl rfl rfl (Int.natCast_nonneg k) (by simpa using hxk) rfl rfl rfl (fun _ => ?_)
    repeat' (refine g_pv rfl rfl ?_)
    refine g_setL 1 (f := fI) (q := (k : Int)) rfl rfl hop2 (fun _ => rfl) rfl rfl rfl rfl (Int.natCast_nonneg v) (by omega) rfl rfl rfl rfl rfl (fun _ A1 ho1 => ?_)
    rw [Int.toNat_natCast] at ho1
    repeat' (first | refine g_pv rfl rfl ?_ | refine g_nil ?_ | refine gq_then ?_ | refine gc_region ?_ | refine gq_block ?_)
    refine gq_again (k + 1, pl.set v (k : Int), A1) ⟨hlt, by simpa using hpll, ho1, fun j x hj hx => ?_⟩ (by simp only; omega) ⟨rfl, rfl, rfl, rfl, inc_eq (by omega), trivial⟩ (fun w' H => H)
    show (pl.set v (k : Int)).getD x.toNat 0 = _
    rw [getD_setZ pl v x.toNat _ (by omega)]
    by_cases hjk : j = k
    · subst hjk
      rw [hxk] at hx; cases hx
      simp
    · rw [if_neg (hne j x (by simp only at hj; omega) hx)]
      exact hpk j x (by simp only at hj; omega) hx
  have hkn : k = post.length := by have := of_decide_eq_false hc; omega
  subst hkn
  have hplace : ∀ v, R0 (nxt code) v → pl[v]? = some ((post.length - 1 - numP post v : Nat) : Int) := fun v hv => by
    have hvn := F.lt v hv
    have h1 : numP post v < post.length := N.bd v hv
    have h2 := hpk (post.length - 1 - numP post v) (v : Int) (by omega) (hP.place hv)
    rw [Int.toNat_natCast] at h2
    rw [← h2]
    simp [List.getD, List.getElem?_eq_getElem (show v < pl.length by omega)]
  clear hc hk hpk
  repeat' (first | refine g_pv rfl rfl ?_ | refine gq_then ?_ | refine gc_seq ?_ | refine gc_region ?_ | refine gc_exit ?_ | refine gq_then_exit ?_ | refine gq_block_exit ?_)
  refine g_call rfl (Cl.of Try.func42 rfl rfl) rfl rfl (fun w' hE => back_sp code _ w' (hr0.le (fun b o h => old_le hE b o (old_le0 _ w b o h))) hn) rfl ?_
  rintro ⟨v8, m8⟩ hm8
  dsimp only at hm8 ⊢
  have hv8 := hm8.len
  obtain ⟨ad8, cap8, rfl, _⟩ := Own.shape hm8.row
  repeat' (first | refine g_pv rfl rfl ?_ | refine g_nil ?_ | refine gq_then ?_ | refine gc_seq ?_ | refine gc_region ?_)
  refine g_setL 2 (f := fI) (q := (0 : Int)) rfl rfl ho (fun _ => rfl) rfl rfl rfl rfl (by omega) (by simp; omega) rfl rfl rfl rfl rfl (fun _ A1 ho1 => ?_)
  rw [show ((0 : Int).toNat) = 0 from rfl] at ho1
  have hI0 := IOk.start (es := nxt code) (num := numP post) (fr := frOf code) hn1
  repeat' (first | refine g_pv rfl rfl ?_ | refine g_nil ?_ | refine gq_then ?_ | refine gc_seq ?_ | refine gc_region ?_ | refine gc_block ?_)
  have hpos : 0 < post.length := by
    obtain ⟨o, h⟩ := hP.last
    rw [h]; simp
  have hoX : OwnI (.slice (some ⟨go, 0, none⟩) code.length code.length) ((List.replicate code.length (-1)).set 0 0) A1 := ho1
  clear ho1
  refine gc_loop (Y := LY) (fun y => IOk (nxt code) (numP post) (frOf code) code.length y.ds y.ag y.fst ∧ OwnI (.slice (some ⟨go, 0, none⟩) code.length code.length) y.ds y.Ao)
    (fun y => [(3, .slice adl post.reverse.length capl), (4, .slice (some ⟨gp, 0, none⟩) code.length code.length), (5, .slice (some ⟨go, 0, none⟩) code.length code.length), (8, .slice ad8 m8.vals.length cap8), (9, .bool y.ag)]) (fun y => [m8.A0, m8.As.flatten, y.Ao, Ap, Al])
    (fun y => imu (numP post) post.length (vsOf post) y.ds y.ag y.fst) ⟨_, true, true, A1, 0, []⟩ ⟨hI0, hoX⟩ ⟨rfl, rfl, rfl, rfl, rfl, trivial⟩ (fun w' H => H) ?_
  rintro ⟨ds0, ag, fst, Ao, _, _⟩ ⟨hI, ho⟩
  try dsimp only at hI ho ⊢
  repeat' (first | refine g_pv rfl rfl ?_ | refine g_nil ?_ | refine gq_then ?_ | refine gc_seq ?_ | refine gc_region ?_)
  refine gc_condC rfl (fun hc => ?_) (fun hc => ?_)
  · subst hc
    repeat' (first | refine g_pv rfl rfl ?_ | refine g_nil ?_ | refine gq_then ?_ | refine gc_seq ?_ | refine gc_region ?_ | refine gc_block ?_ | refine gc_skip ?_)
    refine gc_loop (Y := Nat × RY) (fun y => 1 ≤ y.1 ∧ y.1 ≤ post.length ∧ PRun (numP post) (frOf code) post ds0 y.1 y.2.ds y.2.fl ∧ OwnI (.slice (some ⟨go, 0, none⟩) code.length code.length) y.2.ds y.2.Ao)
      (fun y => [(3, .slice adl post.reverse.length capl), (4, .slice (some ⟨gp, 0, none⟩) code.length code.length), (5, .slice (some ⟨go, 0, none⟩) code.length code.length), (8, .slice ad8 m8.vals.length cap8), (9, .bool y.2.fl), (10, .int .i64 y.1)]) (fun y => [m8.A0, m8.As.flatten, y.2.Ao, Ap, Al])
      (fun y => post.length - y.1) (1, ⟨ds0, false, Ao⟩) ⟨Nat.le_refl _, hpos, PRun.start.zero hP.rev0, ho⟩ ⟨rfl, rfl, rfl, rfl, rfl, rfl, trivial⟩ (fun w' H => H) ?_
    rintro ⟨i, ⟨ds, fl, A2⟩⟩ ⟨hi1, hi, hst, ho2⟩
    try dsimp only at hi1 hi hst ho2 ⊢
    repeat' (first | refine g_pv rfl rfl ?_ | refine g_nil ?_ | refine gq_then ?_ | refine gc_seq ?_ | refine gc_region ?_)
    refine gc_condC rfl (fun hc => ?_) (fun hc => ?_)
    · have hlt : i < post.length := by have := of_decide_eq_true hc; omega
      obtain ⟨hG, hdl⟩ := hst.good N F O hI.good hI.len
      have hxk : post.reverse[i]? = some (post.reverse[i]'(by omega)) := List.getElem?_eq_getElem (by omega)
      obtain ⟨v, hv, hvr⟩ := (hP.mem (post.reverse[i]'(by omega))).1 (by rw [← List.mem_reverse]; exact List.getElem_mem _)
      rw [hv] at hxk
      have hv0 : v ≠ 0 := fun h => hP.revne (by omega) hxk (by rw [h]; rfl)
      have hvn := F.lt v hvr
      obtain ⟨u, a, hu, ha, hoa⟩ := hm8.get (i := v) (by omega)
      have hfv : (fromsAt code code.length)[v]'(by omega) = frOf code v := Option.some.inj ((List.getElem?_eq_getElem (by omega)).symm.trans (fromsOf_get code v hvn))
      rw [hfv] at hoa
      obtain ⟨uad, ucap, rfl, _⟩ := Own.shape hoa
      have hrow := F.nn v
      have hrlen := froms_len code v
      have hlt2 := fun p => frOf_lt code v p
      generalize hrw : frOf code v = row at hoa hrow hrlen hlt2 hu
      have hrd : ∀ {X : Cx} {R : RL} (w' : World), R[1]? = some m8.As.flatten → Hp X w' R → Rd (hw w') fI 1 uad row := fun {X R} w' hR H => by
        obtain ⟨ad', cap', he, hrd⟩ := OwnL.rd (f := fI) (fun _ => rfl) hoa (H := hw w') (fun b o hb' => hp_in H 1 hR b o (List.mem_flatten.2 ⟨a, List.mem_of_getElem? ha, hb'⟩))
        have he' := (Value.slice.inj he).1
        subst he'; exact hrd
      repeat' (first | refine g_pv rfl rfl ?_ | refine gq_then ?_ | refine gc_seq ?_ | refine gc_region ?_ | refine gc_block ?_ | refine gc_skip ?_)
      refine g_atL 4 (f := fI) (q := (v : Int)) rfl rfl hol (fun _ => rfl) rfl rfl rfl rfl (Int.natCast_nonneg i) (by simpa using hxk) rfl rfl rfl (fun _ => ?_)
      repeat' (first | refine g_pv rfl rfl ?_ | refine g_nil ?_ | refine gq_then ?_ | refine gc_seq ?_ | refine gc_region ?_ | refine gc_block ?_)
      refine gc_loop (Y := Nat × Int) (fun y => y.1 ≤ row.length ∧ (y.2 < 0 → y.2 = -1) ∧ (¬ y.2 < 0 → df ds y.2.toNat) ∧ ∀ q, Best (numP post) ds y.2 (row.drop y.1) q → Best (numP post) ds (-1) row q)
        (fun y => [(3, .slice adl post.reverse.length capl), (4, .slice (some ⟨gp, 0, none⟩) code.length code.length), (5, .slice (some ⟨go, 0, none⟩) code.length code.length), (8, .slice ad8 m8.vals.length cap8), (9, .bool fl), (10, .int .i64 i), (11, .int .i64 v), (12, .int .i64 y.2), (13, .int .i64 y.1)]) (fun _ => [m8.A0, m8.As.flatten, A2, Ap, Al])
        (fun y => row.length - y.1) (0, -1) ⟨Nat.zero_le _, fun _ => rfl, fun h => absurd (by decide) h, fun q hq => hq⟩ ⟨rfl, rfl, rfl, rfl, rfl, rfl, rfl, rfl, rfl, trivial⟩ (fun w' H => H) ?_
      rintro ⟨j, best⟩ ⟨hj, hb1, hb2, hb3⟩
      try dsimp only at hj hb1 hb2 hb3 ⊢
      repeat' (first | refine g_pv rfl rfl ?_ | refine gc_seq ?_ | refine gc_region ?_)
      refine g_atL 0 (f := fV) (q := .slice uad row.length ucap) rfl rfl hm8.row (fun _ => rfl) rfl rfl rfl rfl (Int.natCast_nonneg v) (by simpa using hu) rfl rfl rfl (fun _ => ?_)
      repeat' (first | refine g_pv rfl rfl ?_ | refine g_nil ?_ | refine gq_then ?_)
      refine gc_condC rfl (fun hc2 => ?_) (fun hc2 => ?_)
      · have hjlt : j < row.length := by have := of_decide_eq_true hc2; omega
        have hpj : row[j]? = some row[j] := List.getElem?_eq_getElem hjlt
        have hdrop : row.drop j = row[j] :: row.drop (j + 1) := List.drop_eq_getElem_cons hjlt
        have hp0 := hrow _ (List.getElem_mem hjlt)
        generalize row[j] = p at hpj hdrop hp0
        obtain ⟨pn, rfl⟩ : ∃ pn : Nat, p = pn := ⟨p.toNat, by omega⟩
        rw [hdrop] at hb3
        have hpn : pn < ds.length := by
          have := hlt2 pn (List.mem_of_getElem? hpj)
          omega
        have hdp : ds[pn]? = some (ds.getD pn (-1)) := by simp [List.getD, List.getElem?_eq_getElem hpn]
        repeat' (first | refine g_pv rfl rfl ?_ | refine gq_then ?_ | refine gc_seq ?_ | refine gc_region ?_ | refine gc_block ?_ | refine gc_skip ?_)
        refine g_atL 0 (f := fV) (q := .slice uad row.length ucap) rfl rfl hm8.row (fun _ => rfl) rfl rfl rfl rfl (Int.natCast_nonneg v) (by simpa using hu) rfl rfl rfl (fun _ => ?_)
        repeat' (refine g_pv rfl rfl ?_)
        refine g_atG (l := row) (f := fI) (u := (pn : Int)) rfl rfl rfl rfl rfl (Int.natCast_nonneg j) (by omega) (fun w' H => hrd w' rfl H) hpj rfl rfl rfl rfl (fun _ => ?_)
        repeat' (first | refine g_pv rfl rfl ?_ | refine g_nil ?_ | refine gq_then ?_ | refine gc_seq ?_ | refine gc_region ?_)
        refine g_atL 2 (f := fI) (q := ds.getD pn (-1)) rfl rfl ho2 (fun _ => rfl) rfl rfl rfl rfl (Int.natCast_nonneg pn) (by simpa using hdp) rfl rfl rfl (fun _ => ?_)
        repeat' (first | refine g_pv rfl rfl ?_ | refine g_nil ?_ | refine gq_then ?_)
        refine gc_condC rfl (fun hq => ?_) (fun hq => ?_)
        · have hq' : ds.getD pn (-1) < 0 := of_decide_eq_true hq
          repeat' (first | refine g_pv rfl rfl ?_ | refine g_nil ?_ | refine gq_then ?_ | refine gc_region ?_ | refine gc_exit ?_ | refine gq_then_exit ?_ | refine gq_block_exit ?_)
          exact gq_again (j + 1, best) ⟨hjlt, hb1, hb2, fun q hq2 => hb3 q (.skip hq' hq2)⟩ (by simp only; omega) ⟨rfl, rfl, rfl, rfl, rfl, rfl, rfl, rfl, inc_eq (by omega), trivial⟩ (fun w' H => H)
        have hq' : ¬ ds.getD pn (-1) < 0 := of_decide_eq_false hq
        have hdfp : df ds pn := by unfold df; omega
        repeat' (first | refine g_pv rfl rfl ?_ | refine g_nil ?_ | refine gq_then ?_ | refine gc_seq ?_ | refine gc_region ?_ | refine gc_skip ?_)
        refine gc_condC rfl (fun hb => ?_) (fun hb => ?_)
        · have hb' : best < 0 := of_decide_eq_true hb
          repeat' (first | refine g_pv rfl rfl ?_ | refine g_nil ?_ | refine gq_then ?_ | refine gc_seq ?_ | refine gc_region ?_ | refine gc_exit ?_ | refine gq_then_exit ?_ | refine gq_block_exit ?_)
          exact gq_again (j + 1, (pn : Int)) ⟨hjlt, fun h => absurd h (by omega), fun _ => hdfp, fun q hq2 => hb3 q (.first hq' hb' hq2)⟩ (by simp only; omega) ⟨rfl, rfl, rfl, rfl, rfl, rfl, rfl, rfl, inc_eq (by omega), trivial⟩ (fun w' H => H)
        have hb' : ¬ best < 0 := of_decide_eq_false hb
        obtain ⟨bn, rfl⟩ : ∃ bn : Nat, best = bn := ⟨best.toNat, by omega⟩
        have hdfb : df ds bn := by simpa using hb2 hb'
        repeat' (first | refine g_pv rfl rfl ?_ | refine g_nil ?_ | refine gq_then ?_ | refine gc_seq ?_ | refine gc_region ?_ | refine gc_block ?_ | refine gc_skip ?_)
        refine gc_loop (Y := Nat × Nat) (fun y => df ds y.1 ∧ df ds y.2 ∧ ∀ c, Meet (numP post) ds y.1 y.2 c → Meet (numP post) ds pn bn c)
          (fun y => [(3, .slice adl post.reverse.length capl), (4, .slice (some ⟨gp, 0, none⟩) code.length code.length), (5, .slice (some ⟨go, 0, none⟩) code.length code.length), (8, .slice ad8 m8.vals.length cap8), (9, .bool fl), (10, .int .i64 i), (11, .int .i64 v), (13, .int .i64 j), (14, .int .i64 y.1), (15, .int .i64 y.2)]) (fun _ => [m8.A0, m8.As.flatten, A2, Ap, Al])
          (fun y => (post.length - numP post y.1) + (post.length - numP post y.2)) (pn, bn) ⟨hdfp, hdfb, fun c h => h⟩ ⟨rfl, rfl, rfl, rfl, rfl, rfl, rfl, rfl, rfl, rfl, trivial⟩ (fun w' H => H) ?_
        rintro ⟨x, y⟩ ⟨hx, hy, hM⟩
        try dsimp only at hx hy hM ⊢
        have rx := hG.rch x hx
        have ry := hG.rch y hy
        have bx : numP post x < post.length := N.bd x rx
        have bY : numP post y < post.length := N.bd y ry
        have hxn := F.lt x rx
        have hyn := F.lt y ry
        repeat' (first | refine g_pv rfl rfl ?_ | refine g_nil ?_ | refine gq_then ?_ | refine gc_seq ?_ | refine gc_region ?_)
        refine gc_condC rfl (fun hc3 => ?_) (fun hc3 => ?_)
        · have hne : x ≠ y := fun h => by subst h; simp at hc3
          repeat' (first | refine gq_then ?_ | refine gc_seq ?_ | refine gc_block ?_ | refine gc_skip ?_)
          refine gc_draw [m8.A0, m8.As.flatten, A2, Ap, Al] [] rfl (by simp) ?_
          (refine ga_p 0 (by repeat first | exact NoP.sp | apply NoP.then | apply NoP.block) rfl (pv_spec rfl) rfl (by kernel_rfl) (by kernel_rfl) (by kernel_rfl) ?_); (refine ga_p 1 (by repeat first | exact NoP.sp | apply NoP.then | apply NoP.block) rfl (pv_spec rfl) rfl (by kernel_rfl) (by kernel_rfl) (by kernel_rfl) ?_)
          refine ga_at 2 3 (l := pl) (f := fI) (u := ((post.length - 1 - numP post y : Nat) : Int)) (by repeat first | exact NoP.sp | apply NoP.then | apply NoP.block) rfl wanted_none rfl (fun a _ => wanted_none a) rfl rfl rfl rfl rfl (Int.natCast_nonneg y) (by omega) (still_rd 3 rfl (fun _ => rfl) hop2 rfl) (hplace y ry) rfl rfl rfl rfl (by kernel_rfl) (by kernel_rfl) (by kernel_rfl) (by kernel_rfl) (by kernel_rfl) (fun _ => ?_)
          (refine ga_p 4 (by repeat first | exact NoP.sp | apply NoP.then | apply NoP.block) rfl (pv_spec rfl) rfl (by kernel_rfl) (by kernel_rfl) (by kernel_rfl) ?_); (refine ga_p 5 (by repeat first | exact NoP.sp | apply NoP.then | apply NoP.block) rfl (pv_spec rfl) rfl (by kernel_rfl) (by kernel_rfl) (by kernel_rfl) ?_)
          refine ga_at 6 7 (l := pl) (f := fI) (u := ((post.length - 1 - numP post x : Nat) : Int)) (by repeat first | exact NoP.sp | apply NoP.then | apply NoP.block) rfl wanted_none rfl (fun a _ => wanted_none a) rfl rfl rfl rfl rfl (Int.natCast_nonneg x) (by omega) (still_rd 3 rfl (fun _ => rfl) hop2 rfl) (hplace x rx) rfl rfl rfl rfl (by kernel_rfl) (by kernel_rfl) (by kernel_rfl) (by kernel_rfl) (by kernel_rfl) (fun _ => ?_)
          (refine ga_p 8 (by repeat first | exact NoP.sp | apply NoP.then | apply NoP.block) rfl (pv_spec rfl) rfl (by kernel_rfl) (by kernel_rfl) (by kernel_rfl) ?_)
          refine ga_nil (by kernel_rfl) ?_
          repeat' (refine gq_then ?_)
          refine gc_condC rfl (fun hq2 => ?_) (fun hq2 => ?_)
          · have hlt3 : numP post y < numP post x := by have := of_decide_eq_true hq2; omega
            have h0 : y ≠ 0 := fun h => by subst h; have := N.dom (Dm.zero rx); omega
            have hu2 := hG.up y hy h0
            have hbu := N.bd _ (hG.rch _ hu2.1)
            have hget : ds[y]? = some ((ou ds y : Nat) : Int) := by
              have h1 : ds[y]? = some (ds.getD y (-1)) := by simp [List.getD, List.getElem?_eq_getElem (show y < ds.length by omega)]
              rw [h1]; congr 1; unfold ou; unfold df at hy; omega
            repeat' (first | refine g_pv rfl rfl ?_ | refine gc_region ?_)
            refine g_atL 2 (f := fI) (q := ((ou ds y : Nat) : Int)) rfl rfl ho2 (fun _ => rfl) rfl rfl rfl rfl (Int.natCast_nonneg y) (by simpa using hget) rfl rfl rfl (fun _ => ?_)
            repeat' (first | refine g_pv rfl rfl ?_ | refine g_nil ?_ | refine gq_block ?_)
            exact gq_again (x, ou ds y) ⟨hx, hu2.1, fun c h => hM c (.right hne (by omega) h)⟩ (by simp only; omega) ⟨rfl, rfl, rfl, rfl, rfl, rfl, rfl, rfl, rfl, rfl, trivial⟩ (fun w' H => H)
          · have hle3 : numP post x ≤ numP post y := by have := of_decide_eq_false hq2; omega
            have hlt3 : numP post x < numP post y := by
              rcases Nat.lt_or_eq_of_le hle3 with h | h
              · exact h
              · exact absurd (N.inj x y rx ry h) hne
            have h0 : x ≠ 0 := fun h => by subst h; have := N.dom (Dm.zero ry); omega
            have hu2 := hG.up x hx h0
            have hbu := N.bd _ (hG.rch _ hu2.1)
            have hget : ds[x]? = some ((ou ds x : Nat) : Int) := by
              have h1 : ds[x]? = some (ds.getD x (-1)) := by simp [List.getD, List.getElem?_eq_getElem (show x < ds.length by omega)]
              rw [h1]; congr 1; unfold ou; unfold df at hx; omega
            repeat' (first | refine g_pv rfl rfl ?_ | refine gc_region ?_)
            refine g_atL 2 (f := fI) (q := ((ou ds x : Nat) : Int)) rfl rfl ho2 (fun _ => rfl) rfl rfl rfl rfl (Int.natCast_nonneg x) (by simpa using hget) rfl rfl rfl (fun _ => ?_)
            repeat' (first | refine g_pv rfl rfl ?_ | refine g_nil ?_ | refine gq_block ?_)
            exact gq_again (ou ds x, y) ⟨hu2.1, hy, fun c h => hM c (.left hne hlt3 h)⟩ (by simp only; omega) ⟨rfl, rfl, rfl, rfl, rfl, rfl, rfl, rfl, rfl, rfl, trivial⟩ (fun w' H => H)
        · have he : y = x := by have := bne_eq_false_iff_eq.1 hc3; omega
          subst he
          have hcm := hM y (.same y)
          repeat' (first | refine g_pv rfl rfl ?_ | refine g_nil ?_ | refine gq_then ?_ | refine gc_region ?_ | refine gc_exit ?_ | refine gq_then_exit ?_ | refine gq_block ?_ | refine gq_block_exit ?_)
          exact gq_again (j + 1, (y : Int)) ⟨hjlt, fun h => absurd h (by omega), fun _ => by simpa using hy, fun q hq2 => hb3 q (.next hq' hb' (by simpa using hcm) hq2)⟩ (by simp only; omega) ⟨rfl, rfl, rfl, rfl, rfl, rfl, rfl, rfl, inc_eq (by omega), trivial⟩ (fun w' H => H)
      have hje : j = row.length := by have := of_decide_eq_false hc2; omega
      subst hje
      have hbest := hb3 best (by rw [List.drop_length]; exact .nil _)
      rw [← hrw] at hbest
      have hvl : v < ds.length := by omega
      have hdv : ds[v]? = some (ds.getD v (-1)) := by simp [List.getD, List.getElem?_eq_getElem hvl]
      repeat' (first | refine g_pv rfl rfl ?_ | refine gq_then ?_ | refine gc_seq ?_ | refine gc_region ?_ | refine gc_exit ?_ | refine gq_then_exit ?_ | refine gq_block_exit ?_)
      refine g_atL 2 (f := fI) (q := ds.getD v (-1)) rfl rfl ho2 (fun _ => rfl) rfl rfl rfl rfl (Int.natCast_nonneg v) (by simpa using hdv) rfl rfl rfl (fun _ => ?_)
      repeat' (first | refine g_pv rfl rfl ?_ | refine g_nil ?_ | refine gq_then ?_)
      refine gc_condC rfl (fun hq => ?_) (fun hq => ?_)
      · have hne : best ≠ ds.getD v (-1) := by simpa using hq
        repeat' (first | refine g_pv rfl rfl ?_ | refine gc_seq ?_ | refine gc_region ?_)
        refine g_setL 2 (f := fI) (q := best) rfl rfl ho2 (fun _ => rfl) rfl rfl rfl rfl (Int.natCast_nonneg v) (by omega) rfl rfl rfl rfl rfl (fun _ A4 ho4 => ?_)
        rw [Int.toNat_natCast] at ho4
        repeat' (first | refine g_pv rfl rfl ?_ | refine g_nil ?_ | refine gq_then ?_ | refine gc_region ?_ | refine gq_block ?_)
        exact gq_again (i + 1, ⟨ds.set v best, true, A4⟩) ⟨by simp only; omega, hlt, hst.turn O hxk hv0 hbest hvl hne, ho4⟩ (by simp only; omega) ⟨rfl, rfl, rfl, rfl, rfl, inc_eq (by omega), trivial⟩ (fun w' H => H)
      · have he : best = ds.getD v (-1) := by simpa using hq
        rw [he] at hbest
        repeat' (first | refine g_pv rfl rfl ?_ | refine g_nil ?_ | refine gq_then ?_ | refine gc_region ?_ | refine gc_skip ?_ | refine gq_block ?_)
        exact gq_again (i + 1, ⟨ds, fl, A2⟩) ⟨by simp only; omega, hlt, hst.stay hxk hv0 hbest hvl, ho2⟩ (by simp only; omega) ⟨rfl, rfl, rfl, rfl, rfl, inc_eq (by omega), trivial⟩ (fun w' H => H)
    · have hie : i = post.length := by have := of_decide_eq_false hc; omega
      subst hie
      obtain ⟨hI2, hmu⟩ := hI.next N F O hst
      repeat' (first | refine gc_exit ?_ | refine gq_then_exit ?_ | refine gq_block ?_ | refine gq_block_exit ?_)
      exact gq_again ⟨ds, fl, false, A2, 0, []⟩ ⟨hI2, ho2⟩ hmu ⟨rfl, rfl, rfl, rfl, rfl, trivial⟩ (fun w' H => H)
  · subst hc
    have hIs := hI.done N F hn1 hpl
    have hlen := hI.len
    repeat' (first | refine g_pv rfl rfl ?_ | refine gq_then ?_ | refine gc_seq ?_ | refine gc_region ?_ | refine gc_exit ?_ | refine gq_then_exit ?_ | refine gq_block_exit ?_)
    refine g_setL 2 (f := fI) (q := (-1 : Int)) rfl rfl ho (fun _ => rfl) rfl rfl rfl rfl (by omega) (by omega) rfl rfl rfl rfl rfl (fun _ A4 ho4 => ?_)
    rw [show ((0 : Int).toNat) = 0 from rfl] at ho4
    repeat' (first | refine g_pv rfl rfl ?_ | refine g_nil ?_ | refine gq_then ?_ | refine gc_seq ?_ | refine gc_region ?_ | refine gc_ret ?_)
    exact gq_ret1 (.inr rfl) rfl rfl rfl (fun w' H => ⟨(_, A4, ds0.set 0 (-1)), ⟨ho4, hIs⟩, rfl, hp_take 2 rfl (fun H => hp_nil H) H⟩)
end Go.Proofs.Ytpmkkmahimdjkaa
