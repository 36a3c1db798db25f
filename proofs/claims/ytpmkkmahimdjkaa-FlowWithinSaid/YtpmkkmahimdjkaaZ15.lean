/-
  flow.loops, walked.
  flow.Idom, flow.Loops, flow.Depth.
  The document's back.
-/
import Derived.Test.YtpmkkmahimdjkaaZ14

/- flow.loops, walked. -/
namespace Go.Proofs.Ytpmkkmahimdjkaa
open Go.Wk
set_option linter.unusedVariables false
set_option linter.unusedSimpArgs false
attribute [local irreducible] G GC GQ GA GS Exit.then Exit.inBlock

structure JS where
  kv : List (Int × Value)
  en : Array MapEntry
  ck : Nat
  ls : List (List Int)
  As : List HL
  hm : FM
structure JInv (n : Nat) (es : Nat → List Int) (l : List Int) (j k : Nat) (y : JS) : Prop where
  M : MapIs KI y.kv y.en y.ck
  own : OwnML n y.kv y.ls y.As
  hok : y.hm.OkI
  back : ∀ b, b < n → ∀ x : Int, x ∈ y.ls.getD b [] ↔ ∃ a : Nat, x = a ∧ Seen es l j k a b ∧ Dm es b a
  head : ∀ x : Int, x ∈ y.hm.keys ↔ ∃ b : Nat, x = b ∧ ∃ a, Seen es l j k a b ∧ Dm es b a
  bd : ∀ b, (y.ls.getD b []).length ≤ 2 * j + k
theorem JInv.congr {n : Nat} {es : Nat → List Int} {l : List Int} {j k j' k' : Nat} {y : JS} (h : JInv n es l j k y) (e : ∀ a b, Dm es b a → (Seen es l j k a b ↔ Seen es l j' k' a b)) (hb : 2 * j + k ≤ 2 * j' + k') : JInv n es l j' k' y where
  M := h.M
  own := h.own
  hok := h.hok
  back := fun b hb x => (h.back b hb x).trans ⟨fun ⟨a, h1, h2, h3⟩ => ⟨a, h1, (e a b h3).1 h2, h3⟩, fun ⟨a, h1, h2, h3⟩ => ⟨a, h1, (e a b h3).2 h2, h3⟩⟩
  head := fun x => (h.head x).trans ⟨fun ⟨b, h1, a, h2, h3⟩ => ⟨b, h1, a, (e a b h3).1 h2, h3⟩, fun ⟨b, h1, a, h2, h3⟩ => ⟨b, h1, a, (e a b h3).2 h2, h3⟩⟩
  bd := fun b => Nat.le_trans (h.bd b) hb
theorem FM.Ok.toI {m : FM} (h : m.Ok) : m.OkI := ⟨h.is, fun p hp => ⟨1, h.one p hp⟩⟩
theorem getD_setL (ls : List (List Int)) (i u : Nat) (l : List Int) (h : i < ls.length) : (ls.set i l).getD u [] = if u = i then l else ls.getD u [] := by
  by_cases hu : u = i
  · subst hu; simp [List.getD, List.getElem?_set_self h]
  · simp [List.getD, List.getElem?_set_ne (Ne.symm hu), hu]

set_option maxHeartbeats 16000000 in
theorem loops_sp (f : TF) (gb : Nat) (nv fv : Value) (w : World) (hg : GrIn (hw w) f gb nv fv) (hn : 1 ≤ f.code.length) (hn2 : f.code.length ≤ 16384) :
    Sp Try.prog 41 [.pointer (some ⟨gb, 0, none⟩)] w [] (fun y : LA => .tuple #[y.v, y.vl]) (fun y => [y.A, y.m.A0, y.m.As.flatten]) (fun y => OwnI y.v y.hl y.A ∧ OwnLL y.vl y.ll y.m ∧ IsLoops (nxt f.code) y.hl y.ll) := by
  obtain ⟨ad, cap, vals, rfl, hnr, hnvl, hnget⟩ := RdLL.get hg.rn
  obtain ⟨fad, fcap, fvals, rfl, -, -, -⟩ := RdLL.get hg.rf
  have hnl : (nextsAt f.code f.code.length).length = f.code.length := nextsAt_length _ _ (Nat.le_refl _)
  have F := frOf_fr f.code hn
  refine enter (s := Try.sx) [] Try.func41 rfl rfl rfl (Eff.refl w) ?_
  repeat' (first | refine g_pv rfl rfl ?_ | refine g_ld 0 rfl rfl rfl rfl rfl rfl ?_ | refine g_nil ?_ | refine gq_then ?_ | refine gc_seq ?_ | refine gc_region ?_ | refine g_box rfl rfl (fun _ => ?_))
  rename_i b1
  refine g_call rfl (Cl.of Try.func39 rfl rfl) rfl rfl (fun w' hE => idom_sp f gb _ _ w' (hg.le (fun b o h => old_le hE b o (old_le0 _ w b o h))) hn hn2) rfl ?_
  rintro ⟨vd, Ad, xs⟩ ⟨hod, hid⟩
  dsimp only at hod hid ⊢
  obtain ⟨num, M, N, hMn⟩ := hid.num
  obtain ⟨add, capd, rfl, _⟩ := Own.shape hod
  repeat' (first | refine g_ld 2 rfl rfl rfl rfl rfl rfl ?_ | refine g_nil ?_ | refine gq_then ?_ | refine gc_seq ?_ | refine gc_region ?_ | refine g_alloc rfl rfl (fun _ => ?_) | refine g_st 0 rfl rfl rfl rfl rfl rfl rfl ?_)
  rename_i b4
  refine g_call rfl (Cl.of Try.func31 rfl rfl) rfl rfl (fun w' hE => reached_sp f gb _ _ w' (hg.le (fun b o h => old_le hE b o (old_le0 _ w b o h))) hn hn2) rfl ?_
  rintro m0 ⟨hm1, hm2⟩
  have hkl := keys_len (n := f.code.length) hm1 (fun k hk => by
    obtain ⟨u, rfl, hu⟩ := (hm2 k).1 hk
    have := F.lt u hu
    omega)
  repeat' (first | refine g_pv rfl rfl ?_ | refine g_nil ?_ | refine gq_then ?_ | refine gc_seq ?_ | refine gc_region ?_)
  refine g_mkmap rfl (fun r7 => ?_)
  repeat' (first | refine g_pv rfl rfl ?_ | refine g_nil ?_ | refine gq_then ?_ | refine gc_seq ?_ | refine gc_region ?_)
  refine g_mkmap rfl (fun r8 => ?_)
  repeat' (first | refine g_pv rfl rfl ?_ | refine g_nil ?_ | refine gq_then ?_ | refine gc_seq ?_ | refine gc_region ?_)
  refine g_heap (fun w' H => hp_take 2 rfl (fun H => H) H) ?_
  refine g_callA rfl rfl (Cl.of Try.func29 rfl rfl) rfl rfl (fun w' hE => rising_sp m0.r m0.es m0.clock m0.kv w' hm1.is (hp_eff hE) (by omega)) rfl ?_
  rintro ⟨vl, Al⟩ hol
  dsimp only at hol ⊢
  have hls := sorted_set hm1.nodup hm2
  rw [show m0.kv.map (·.1) = m0.keys from rfl] at hol
  generalize sorted m0.keys = l at hol hls
  have hll := isset_len hls (fun u hu => F.lt u hu)
  repeat' (fail)
  refine g_lenL rfl hol rfl rfl ?_
  repeat' (first | refine g_pv rfl rfl ?_ | refine g_nil ?_ | refine gq_then ?_ | refine gc_block ?_)
  refine gc_loop (Y := Nat × JS) (fun y => y.1 ≤ l.length ∧ JInv f.code.length (nxt f.code) l y.1 0 y.2)
    (fun y => [(1, .pointer (some ⟨b1, 0, none⟩)), (4, .pointer (some ⟨b4, 0, none⟩)), (6, .func (.func 53) #[] #[.pointer (some ⟨b4, 0, none⟩)]), (7, .map (some r7)), (8, .map (some y.2.hm.r)), (26, vl), (27, .int .i64 l.length), (28, .int .i64 y.1)])
    (fun y => [y.2.As.flatten, [(r7, .map y.2.en y.2.ck)], y.2.hm.hl, [(b1, .cells ⟨[.pointer (some ⟨gb, 0, none⟩)]⟩ 50 (0, 0))], [(b4, .cells ⟨[.slice add xs.length capd]⟩ 26 (0, 0))], Al, Ad])
    (fun y => l.length - y.1) (0, ⟨[], #[], 0, List.replicate f.code.length [], List.replicate f.code.length [], ⟨r8, #[], 0, []⟩⟩) ⟨Nat.zero_le _, ⟨mapIs_nil _ _, OwnML.start _, ⟨mapIs_nil _ _, fun _ h => (by cases h)⟩, fun b hb x => ?_, fun x => ?_, fun b => ?_⟩⟩ ⟨rfl, rfl, rfl, rfl, rfl, rfl, rfl, rfl, trivial⟩ (fun w' H => ?_) ?_
  · have e : (List.replicate f.code.length ([] : List Int)).getD b [] = [] := by simp [List.getD, List.getElem?_replicate, hb]
    rw [e]
    exact ⟨fun h => (by cases h), fun ⟨a, _, h, _⟩ => absurd h Seen.zero⟩
  · exact ⟨fun h => (by cases h), fun ⟨b, _, a, h, _⟩ => absurd h Seen.zero⟩
  · have e : (List.replicate f.code.length ([] : List Int)).getD b [] = [] := by
      simp only [List.getD, List.getElem?_replicate]; split <;> rfl
    rw [e]; simp
  · exact hp_cnt (R := [Al, [(m0.r, .map m0.es m0.clock)], [(r8, .map #[] 0)], [(r7, .map #[] 0)], [(b4, .cells ⟨[.slice add xs.length capd]⟩ 26 (0, 0))], Ad, [(b1, .cells ⟨[.pointer (some ⟨gb, 0, none⟩)]⟩ 50 (0, 0))]]) [(m0.r, .map m0.es m0.clock)] H (fun a => by simp only [FM.hl, putC, Value.cells, List.cons_append, List.nil_append, List.set_cons_zero, List.set_cons_succ, List.flatten_append, List.flatten_cons, List.flatten_nil, List.count_append, List.count_cons, List.count_nil, List.append_nil, List.flatten_replicate_nil]; omega)
  rintro ⟨j, ⟨kv, en, ck, ls, As, hm⟩⟩ ⟨hj, hI⟩
  try dsimp only at hj hI ⊢
  repeat' (first | refine g_pv rfl rfl ?_ | refine g_nil ?_ | refine gq_then ?_ | refine gc_seq ?_ | refine gc_region ?_)
  refine gc_condC rfl (fun hc => ?_) (fun hc => ?_)
  · have hlt : j < l.length := by have := of_decide_eq_true hc; omega
    have hlj : l[j]? = some l[j] := List.getElem?_eq_getElem hlt
    obtain ⟨a, ha, har⟩ := (hls.2 l[j]).1 (List.getElem_mem hlt)
    rw [ha] at hlj
    have han := F.lt a har
    obtain ⟨u, hu, uad, ucap, hue, hur⟩ := hnget a _ (nextsAt_get f.code a han)
    subst hue
    have hrl := nxt_len f.code a
    repeat' (first | refine gq_then ?_ | refine gc_seq ?_ | refine gc_region ?_ | refine gc_block ?_ | refine gc_skip ?_)
    refine g_atL 5 (f := fI) (q := (a : Int)) rfl rfl hol (fun _ => rfl) rfl rfl rfl rfl (Int.natCast_nonneg j) (by simpa using hlj) rfl rfl rfl (fun _ => ?_)
    repeat' (first | refine g_pv rfl rfl ?_ | refine g_ld 3 rfl rfl rfl rfl rfl rfl ?_ | refine g_nil ?_ | refine gq_then ?_ | refine gc_seq ?_ | refine gc_region ?_)
    refine g_ldO rfl rfl (cs := [.slice ad (nextsAt f.code f.code.length).length cap]) rfl rfl (cell1 ((old_le0 _ w).cell hg.cn)) rfl ?_
    repeat' (refine g_pv rfl rfl ?_)
    refine g_at (l := vals) (f := fV) (u := .slice uad (nxt f.code a).length ucap) rfl rfl rfl rfl rfl (Int.natCast_nonneg a) (by omega) (hnr.le (old_le0 _ w)) hu rfl rfl rfl rfl (fun _ => ?_)
    repeat' (first | refine g_pv rfl rfl ?_ | refine g_nil ?_ | refine gq_then ?_ | refine gc_block ?_)
    refine gc_loop (Y := Nat × JS) (fun y => y.1 ≤ (nxt f.code a).length ∧ JInv f.code.length (nxt f.code) l j y.1 y.2)
      (fun y => [(1, .pointer (some ⟨b1, 0, none⟩)), (4, .pointer (some ⟨b4, 0, none⟩)), (6, .func (.func 53) #[] #[.pointer (some ⟨b4, 0, none⟩)]), (7, .map (some r7)), (8, .map (some y.2.hm.r)), (10, .int .i64 a), (26, vl), (27, .int .i64 l.length), (28, .int .i64 j), (38, .slice uad (nxt f.code a).length ucap), (39, .int .i64 (nxt f.code a).length), (40, .int .i64 y.1)])
      (fun y => [y.2.As.flatten, [(r7, .map y.2.en y.2.ck)], y.2.hm.hl, [(b1, .cells ⟨[.pointer (some ⟨gb, 0, none⟩)]⟩ 50 (0, 0))], [(b4, .cells ⟨[.slice add xs.length capd]⟩ 26 (0, 0))], Al, Ad])
      (fun y => (nxt f.code a).length - y.1) (0, ⟨kv, en, ck, ls, As, hm⟩) ⟨Nat.zero_le _, hI⟩ ⟨rfl, rfl, rfl, rfl, rfl, rfl, rfl, rfl, rfl, rfl, rfl, rfl, trivial⟩ (fun w' H => H) ?_
    clear hI
    rintro ⟨k, ⟨kv, en, ck, ls, As, hm⟩⟩ ⟨hk, hI⟩
    try dsimp only at hk hI ⊢
    repeat' (first | refine g_pv rfl rfl ?_ | refine g_nil ?_ | refine gq_then ?_ | refine gc_seq ?_ | refine gc_region ?_)
    refine gc_condC rfl (fun hc2 => ?_) (fun hc2 => ?_)
    · have hklt : k < (nxt f.code a).length := by have := of_decide_eq_true hc2; omega
      have hkx : (nxt f.code a)[k]? = some (nxt f.code a)[k] := List.getElem?_eq_getElem hklt
      have hkin := nxt_in f.code a _ (List.getElem_mem hklt)
      have hkmem := List.getElem_mem hklt
      generalize (nxt f.code a)[k] = x at hkx hkin hkmem
      obtain ⟨b, rfl⟩ : ∃ b : Nat, x = b := ⟨x.toNat, by omega⟩
      have hmore := Seen.more hlj hkx
      repeat' (first | refine gq_then ?_ | refine gc_seq ?_ | refine gc_region ?_ | refine gc_block ?_ | refine gc_skip ?_)
      refine g_at (l := nxt f.code a) (f := fI) (u := (b : Int)) rfl rfl rfl rfl rfl (Int.natCast_nonneg k) (by omega) (hur.le (old_le0 _ w)) hkx rfl rfl rfl rfl (fun _ => ?_)
      repeat' (first | refine g_pv rfl rfl ?_ | refine g_nil ?_ | refine gq_then ?_ | refine gc_seq ?_ | refine gc_region ?_)
      refine g_call rfl (Cl.of Try.func53 rfl rfl) rfl rfl (fun w' hE => loops1_sp N hid F.lt b a b4 (.slice add xs.length capd) w' (cellAt_of (hp_in hE 4 rfl _ _ List.mem_cons_self)) (OwnI.rd hod (hp_in hE 6 rfl)) har) rfl ?_
      rintro yb hyb
      repeat' (first | refine g_nil ?_ | refine gq_then ?_)
      refine gc_condC rfl (fun hq => ?_) (fun hq => ?_)
      · have hdm := hyb.1 hq
        have hbn : b < f.code.length := by omega
        obtain ⟨hAb, hob⟩ := hI.own.get hbn
        have hlb := hI.bd b
        obtain ⟨z, hz⟩ := hI.hok.look (b : Int)
        dsimp only at hAb hob hlb hz
        repeat' (first | refine g_pv rfl rfl ?_ | refine gc_seq ?_ | refine gc_region ?_)
        refine g_heap (fun w' H => hp_split b hAb H) ?_
        refine g_look 2 (kf := KI) (k := (b : Int)) rfl rfl rfl rfl rfl (kl_int (Try.sx.ok.at rfl)) hI.M rfl ?_
        repeat' (refine g_pv rfl rfl ?_)
        refine g_app1L 0 (f := fI) (q := (a : Int)) rfl rfl rfl rfl rfl rfl rfl rfl rfl rfl rfl rfl hob (by unfold maxLen; omega) (by show _ * 8 ≤ _; omega) rfl rfl (fun v4 A4 g4 ho4 => ?_)
        repeat' (fail)
        refine g_upd 2 (kf := KI) (k := (b : Int)) rfl rfl rfl rfl rfl (kl_int (Try.sx.ok.at rfl)) hI.M (fun en' ck' M' => ?_)
        repeat' (first | refine g_pv rfl rfl ?_ | refine g_nil ?_ | refine gq_then ?_ | refine gc_region ?_)
        refine g_look 3 (kf := KI) (k := (b : Int)) rfl rfl rfl rfl rfl (kl_int (Try.sx.ok.at rfl)) hI.hok.is rfl ?_
        rw [show ((ml hm.kv (b : Int)).getD (Value.int .i64 0)) = _ from hz]
        repeat' (refine g_pv rfl rfl ?_)
        refine g_upd 3 (kf := KI) (k := (b : Int)) rfl rfl rfl rfl rfl (kl_int (Try.sx.ok.at rfl)) hI.hok.is (fun es' clock' Mh' => ?_)
        repeat' (first | refine g_pv rfl rfl ?_ | refine g_nil ?_ | refine gq_then ?_ | refine gc_region ?_ | refine gq_block ?_)
        refine gq_again (k + 1, ⟨mput kv (b : Int) v4, en', ck', ls.set b (ls.getD b [] ++ [(a : Int)]), As.set b A4, ⟨hm.r, es', clock', mput hm.kv (b : Int) (.int .i64 (IntKind.i64.wrap (z + 1)))⟩⟩) ⟨hklt, ⟨M', hI.own.put ho4, okI_put hI.hok Mh', fun c hcn x => ?_, fun x => ?_, fun c => ?_⟩⟩ (by simp only; omega) ⟨rfl, rfl, rfl, rfl, rfl, rfl, rfl, rfl, rfl, rfl, rfl, inc_eq (by omega), trivial⟩ (fun w' H => hp_join b (by rw [hI.own.la]; exact hbn) H)
        · have hbl : b < ls.length := by rw [hI.own.ln]; exact hbn
          show x ∈ (ls.set b (ls.getD b [] ++ [(a : Int)])).getD c [] ↔ _
          rw [getD_setL ls b c _ hbl]
          have hbk := hI.back c hcn x
          by_cases hcb : c = b
          · subst hcb
            rw [if_pos rfl, List.mem_append, hbk]
            simp only [List.mem_singleton]
            constructor
            · rintro (⟨a', h1, h2, h3⟩ | h1)
              · exact ⟨a', h1, (hmore a' c).2 (.inl h2), h3⟩
              · exact ⟨a, h1, (hmore a c).2 (.inr ⟨rfl, rfl⟩), hdm⟩
            · rintro ⟨a', h1, h2, h3⟩
              rcases (hmore a' c).1 h2 with h4 | ⟨h4, _⟩
              · exact .inl ⟨a', h1, h4, h3⟩
              · subst h4; exact .inr h1
          · rw [if_neg hcb, hbk]
            constructor
            · rintro ⟨a', h1, h2, h3⟩; exact ⟨a', h1, (hmore a' c).2 (.inl h2), h3⟩
            · rintro ⟨a', h1, h2, h3⟩
              rcases (hmore a' c).1 h2 with h4 | ⟨_, h4⟩
              · exact ⟨a', h1, h4, h3⟩
              · exact absurd h4 hcb
        · have hmm : x ∈ FM.keys ⟨hm.r, es', clock', mput hm.kv (b : Int) (.int .i64 (IntKind.i64.wrap (z + 1)))⟩ ↔ x = (b : Int) ∨ x ∈ hm.keys := mem_keys_mput _ _ _ _
          refine hmm.trans ?_
          rw [hI.head x]
          constructor
          · rintro (h1 | ⟨b', h1, a', h2, h3⟩)
            · exact ⟨b, h1, a, (hmore a b).2 (.inr ⟨rfl, rfl⟩), hdm⟩
            · exact ⟨b', h1, a', (hmore a' b').2 (.inl h2), h3⟩
          · rintro ⟨b', h1, a', h2, h3⟩
            rcases (hmore a' b').1 h2 with h4 | ⟨_, h4⟩
            · exact .inr ⟨b', h1, a', h4, h3⟩
            · subst h4; exact .inl h1
        · show ((ls.set b (ls.getD b [] ++ [(a : Int)])).getD c []).length ≤ _
          rw [getD_setL ls b c _ (by rw [hI.own.ln]; exact hbn)]
          have hbc := hI.bd c
          split
          · simp only [List.length_append, List.length_singleton]; omega
          · dsimp only at hbc ⊢; omega
      · have hdm : ¬ Dm (nxt f.code) b a := fun h => by rw [hyb.2 h] at hq; cases hq
        repeat' (first | refine g_pv rfl rfl ?_ | refine g_nil ?_ | refine gq_then ?_ | refine gc_region ?_ | refine gc_skip ?_ | refine gq_block ?_)
        refine gq_again (k + 1, ⟨kv, en, ck, ls, As, hm⟩) ⟨hklt, hI.congr (fun a' b' hd => ?_) (by omega)⟩ (by simp only; omega) ⟨rfl, rfl, rfl, rfl, rfl, rfl, rfl, rfl, rfl, rfl, rfl, inc_eq (by omega), trivial⟩ (fun w' H => H)
        rw [hmore]
        constructor
        · exact .inl
        · rintro (h | ⟨rfl, rfl⟩)
          · exact h
          · exact absurd hd hdm
    · have hke : k = (nxt f.code a).length := by have := of_decide_eq_false hc2; omega
      subst hke
      repeat' (first | refine g_pv rfl rfl ?_ | refine g_nil ?_ | refine gq_then ?_ | refine gc_region ?_ | refine gc_exit ?_ | refine gq_then_exit ?_ | refine gq_block ?_ | refine gq_block_exit ?_)
      exact gq_again (j + 1, ⟨kv, en, ck, ls, As, hm⟩) ⟨hlt, hI.congr (fun a' b' _ => (Seen.next hlj a' b').symm) (by omega)⟩ (by simp only; omega) ⟨rfl, rfl, rfl, rfl, rfl, rfl, rfl, inc_eq (by omega), trivial⟩ (fun w' H => H)
  have hje : j = l.length := by have := of_decide_eq_false hc; omega
  subst hje
  have hall := fun a b => Seen.all hls a b
  have hheads : IsSet (sorted hm.keys) (HeadP (nxt f.code)) := sorted_set hI.hok.is.nodup (fun v => (hI.head v).trans ⟨fun ⟨b, h1, a, h2, h3⟩ => ⟨b, h1, a, ((hall a b).1 h2).1, ((hall a b).1 h2).2, h3⟩, fun ⟨b, h1, a, h2, h3, h4⟩ => ⟨b, h1, a, (hall a b).2 ⟨h2, h3⟩, h4⟩⟩)
  have hbacks : ∀ b, b < f.code.length → ∀ k, k ∈ ls.getD b [] ↔ ∃ a : Nat, k = a ∧ BackE (nxt f.code) a b := fun b hb k => (hI.back b hb k).trans ⟨fun ⟨a, h1, h2, h3⟩ => ⟨a, h1, ((hall a b).1 h2).1, ((hall a b).1 h2).2, h3⟩, fun ⟨a, h1, h2, h3, h4⟩ => ⟨a, h1, (hall a b).2 ⟨h2, h3⟩, h4⟩⟩
  have hhl := keys_lenI (n := f.code.length) hI.hok (fun k hk => by
    obtain ⟨b, rfl, a, h1, _⟩ := (hI.head k).1 hk
    have h2 := (hall a b).1 h1
    have := F.lt b (Rch.step h2.1 h2.2)
    omega)
  clear hc hj
  repeat' (first | refine g_pv rfl rfl ?_ | refine gq_then ?_ | refine gc_seq ?_ | refine gc_region ?_ | refine gc_exit ?_ | refine gq_then_exit ?_ | refine gq_block_exit ?_)
  refine g_heap (fun w' H => hp_take 2 rfl (fun H => H) H) ?_
  refine g_callA rfl rfl (Cl.of Try.func29 rfl rfl) rfl rfl (fun w' hE => rising_sp hm.r hm.es hm.clock hm.kv w' hI.hok.is (hp_eff hE) (by dsimp only at hhl; omega)) rfl ?_
  rintro ⟨vh, Ah⟩ hoh
  dsimp only at hoh ⊢
  rw [show hm.kv.map (·.1) = hm.keys from rfl] at hoh
  generalize sorted hm.keys = hh at hoh hheads
  have hhlen := isset_len hheads (fun b hb => F.lt b hb.rch)
  obtain ⟨adh, caph, rfl, _⟩ := Own.shape hoh
  have hM7 := hI.M
  have hown := hI.own
  have hbd7 := hI.bd
  dsimp only at hM7 hown hbd7
  clear hI
  repeat' (first | refine g_pv rfl rfl ?_ | refine g_nil ?_ | refine gq_then ?_ | refine gc_seq ?_ | refine gc_region ?_ | refine gc_block ?_)
  refine gc_loop (Y := Nat × Value × List (List Int) × LM) (fun y => y.1 ≤ hh.length ∧ OwnLL y.2.1 y.2.2.1 y.2.2.2 ∧ y.2.2.1.length = y.1 ∧ ∀ (i b : Nat) r, hh[i]? = some (b : Int) → y.2.2.1[i]? = some r → IsSet r (InLoop (nxt f.code) b))
    (fun y => [(1, .pointer (some ⟨b1, 0, none⟩)), (7, .map (some r7)), (13, .slice adh hh.length caph), (14, y.2.1), (64, .slice adh hh.length caph), (65, .int .i64 hh.length), (66, .int .i64 y.1)])
    (fun y => [y.2.2.2.A0, y.2.2.2.As.flatten, [(b1, .cells ⟨[.pointer (some ⟨gb, 0, none⟩)]⟩ 50 (0, 0))], [(r7, .map en ck)], As.flatten, Ah])
    (fun y => hh.length - y.1) (0, .slice none 0 0, [], ⟨[], [], []⟩) ⟨Nat.zero_le _, ownLL_nil, rfl, fun i b r _ h => by simp at h⟩ ⟨rfl, rfl, rfl, rfl, rfl, rfl, rfl, trivial⟩ (fun w' H => hp_cnt (R := [Ah, [(hm.r, .map hm.es hm.clock)], As.flatten, [(r7, .map en ck)], [(b1, .cells ⟨[.pointer (some ⟨gb, 0, none⟩)]⟩ 50 (0, 0))], [(b4, .cells ⟨[.slice add xs.length capd]⟩ 26 (0, 0))], Al, Ad]) ([(hm.r, .map hm.es hm.clock)] ++ [(b4, .cells ⟨[.slice add xs.length capd]⟩ 26 (0, 0))] ++ Al ++ Ad) H (fun a => by simp only [FM.hl, putC, Value.cells, List.cons_append, List.nil_append, List.set_cons_zero, List.set_cons_succ, List.flatten_append, List.flatten_cons, List.flatten_nil, List.count_append, List.count_cons, List.count_nil, List.append_nil, List.flatten_replicate_nil]; omega)) ?_
  rintro ⟨j, vo, lo, mo⟩ ⟨hj, hoo, hlo, hrows⟩
  try dsimp only at hj hoo hlo hrows ⊢
  repeat' (first | refine g_pv rfl rfl ?_ | refine g_nil ?_ | refine gq_then ?_ | refine gc_seq ?_ | refine gc_region ?_)
  refine gc_condC rfl (fun hc => ?_) (fun hc => ?_)
  · have hlt : j < hh.length := by have := of_decide_eq_true hc; omega
    have hlj : hh[j]? = some hh[j] := List.getElem?_eq_getElem hlt
    obtain ⟨b, hb, hbh⟩ := (hheads.2 hh[j]).1 (List.getElem_mem hlt)
    rw [hb] at hlj
    have hbr := hbh.rch
    have hbn := F.lt b hbr
    obtain ⟨hAb, hob⟩ := hown.get hbn
    have hlb := hbd7 b
    have hbk := hbacks b hbn
    have hAin : ∀ p, p ∈ As.getD b [] → p ∈ As.flatten := fun p hp => List.mem_flatten.2 ⟨_, List.mem_of_getElem? hAb, hp⟩
    have hvl : mo.vals.length = j := by rw [hoo.len, hlo]
    have hrem := rem_le (n := f.code.length) (m := 2 * f.code.length) (es := fun u => if u = b then [] else frOf f.code u) (fun u _ => by split; · simp
                                                                                                                                          · exact froms_len f.code u) []
    have hsq : f.code.length * (2 * f.code.length + 1) ≤ 16384 * 32769 := Nat.mul_le_mul hn2 (by omega)
    repeat' (first | refine gq_then ?_ | refine gc_seq ?_ | refine gc_region ?_ | refine gc_block ?_ | refine gc_skip ?_)
    refine g_atL 5 (f := fI) (q := (b : Int)) rfl rfl hoh (fun _ => rfl) rfl rfl rfl rfl (Int.natCast_nonneg j) (by simpa using hlj) rfl rfl rfl (fun _ => ?_)
    repeat' (first | refine g_pv rfl rfl ?_ | refine g_ld 0 rfl rfl rfl rfl rfl rfl ?_ | refine g_nil ?_ | refine gq_then ?_ | refine gc_seq ?_ | refine gc_region ?_ | refine g_alloc rfl rfl (fun _ => ?_) | refine g_st 0 rfl rfl rfl rfl rfl rfl rfl ?_)
    rename_i b16
    refine g_look 4 (kf := KI) (k := (b : Int)) rfl rfl rfl rfl rfl (kl_int (Try.sx.ok.at rfl)) hM7 rfl ?_
    repeat' (refine g_pv rfl rfl ?_)
    refine g_call rfl (Cl.of Try.func47 rfl rfl) rfl rfl (fun w' hE => follow_sp f.code.length (fun u => if u = b then [] else frOf f.code u) (ls.getD b []) _ 54 _ w' (OwnI.rd hob (fun b' o hb' => hp_in hE 5 rfl b' o (hAin _ hb'))) (fun k hk => ?_) (fun u hu => ?_) ⟨Cl.of Try.func54 rfl rfl, fun w2 i hi hH2 => ?_⟩ (by omega)) rfl ?_
    · obtain ⟨a, rfl, h1, _⟩ := (hbk k).1 hk
      have := F.lt a h1; omega
    · intro k hk
      split at hk
      · cases hk
      · have h0 := F.nn u k hk
        have := frOf_lt f.code u k.toNat (by rw [Int.toNat_of_nonneg h0]; exact hk)
        omega
    · exact loops2_sp f gb b1 b16 b _ _ i w2 (hw w') hH2 hi (cellAt_of (hp_in hE 0 rfl _ _ List.mem_cons_self)) (cellAt_of (hp_in hE 3 rfl _ _ List.mem_cons_self)) (hg.le (fun b o h => old_le hE b o (old_le0 _ w b o h)))
    rintro m2 ⟨hm21, hm22⟩
    repeat' (first | refine g_pv rfl rfl ?_ | refine g_ld 1 rfl rfl rfl rfl rfl rfl ?_ | refine g_nil ?_ | refine gq_then ?_ | refine gc_seq ?_ | refine gc_region ?_)
    refine g_look 0 (kf := KI) (k := (b : Int)) rfl rfl rfl rfl rfl (kl_int (Try.sx.ok.at rfl)) hm21.is rfl ?_
    rw [show ((ml m2.kv (b : Int)).getD (Value.int .i64 0)) = _ from FM.look hm21 (b : Int)]
    repeat' (refine g_pv rfl rfl ?_)
    refine g_upd 0 (kf := KI) (k := (b : Int)) rfl rfl rfl rfl rfl (kl_int (Try.sx.ok.at rfl)) hm21.is (fun es' clock' Mm' => ?_)
    have hokI := okI_put hm21.toI Mm'
    have hset : IsSet (sorted (FM.keys ⟨m2.r, es', clock', mput m2.kv (b : Int) (.int .i64 (IntKind.i64.wrap ((if (b : Int) ∈ m2.keys then 1 else 0) + 1)))⟩)) (InLoop (nxt f.code) b) := sorted_set hokI.is.nodup (fun v => by
      have hmm : v ∈ FM.keys ⟨m2.r, es', clock', mput m2.kv (b : Int) (.int .i64 (IntKind.i64.wrap ((if (b : Int) ∈ m2.keys then 1 else 0) + 1)))⟩ ↔ v = (b : Int) ∨ v ∈ m2.keys := mem_keys_mput _ _ _ _
      rw [hmm, hm22]
      constructor
      · rintro (h | ⟨u, h1, h2⟩)
        · exact ⟨b, h, .head⟩
        · exact ⟨u, h1, (InLoop.by_rch hbk u).2 (.inr h2)⟩
      · rintro ⟨u, h1, h2⟩
        rcases (InLoop.by_rch hbk u).1 h2 with h3 | h3
        · subst h3; exact .inl h1
        · exact .inr ⟨u, h1, h3⟩)
    have hkl2 := keys_lenI (n := f.code.length) hokI (fun k hk => by
      have h1 : k = (b : Int) ∨ k ∈ m2.keys := (mem_keys_mput _ _ _ _).1 hk
      rcases h1 with h1 | h1
      · omega
      · obtain ⟨u, rfl, hu⟩ := (hm22 k).1 h1
        have := ((InLoop.by_rch hbk u).2 (.inr hu)).lt hbr hn
        omega)
    repeat' (first | refine g_pv rfl rfl ?_ | refine g_nil ?_ | refine gq_then ?_ | refine gc_region ?_)
    refine g_callA rfl rfl (Cl.of Try.func29 rfl rfl) rfl rfl (fun w' hE => rising_sp m2.r es' clock' _ w' hokI.is (hp_eff hE) (by exact Nat.le_trans hkl2 (by omega))) rfl ?_
    rintro ⟨v81, A81⟩ ho81
    dsimp only at ho81 ⊢
    have hcell : v81.cells = ⟨fV v81⟩ ∧ (v81.oneCell') = true := by obtain ⟨_, _, rfl, _⟩ := Own.shape ho81; exact ⟨rfl, rfl⟩
    refine g_app1L 3 (f := fV) (q := v81) rfl rfl rfl rfl rfl rfl rfl rfl hcell.1 rfl rfl (by simp [hcell.2]) hoo.row (by unfold maxLen; omega) (by show _ * 24 ≤ _; omega) rfl rfl (fun v4 A4 g4 ho4 => ?_)
    repeat' (first | refine g_pv rfl rfl ?_ | refine g_nil ?_ | refine gq_then ?_ | refine gc_region ?_ | refine gq_block ?_)
    refine gq_again (j + 1, v4, lo ++ [_], ⟨A4, mo.As ++ [A81], mo.vals ++ [v81]⟩) ⟨hlt, hoo.push ho81 ho4, by simp [hlo], fun i c r h1 h2 => ?_⟩ (by simp only; omega) ⟨rfl, rfl, rfl, rfl, rfl, rfl, inc_eq (by omega), trivial⟩ (fun w' H => hp_cnt (R := [A81, [(m2.r, .map es' clock')], [(b16, .cells ⟨[.int .i64 (b : Nat)]⟩ 3 (0, 0))], A4, mo.As.flatten, [(b1, .cells ⟨[.pointer (some ⟨gb, 0, none⟩)]⟩ 50 (0, 0))], [(r7, .map en ck)], As.flatten, Ah]) ([(m2.r, .map es' clock')] ++ [(b16, .cells ⟨[.int .i64 (b : Nat)]⟩ 3 (0, 0))]) H (fun a => by simp only [FM.hl, putC, Value.cells, List.cons_append, List.nil_append, List.set_cons_zero, List.set_cons_succ, List.flatten_append, List.flatten_cons, List.flatten_nil, List.count_append, List.count_cons, List.count_nil, List.append_nil, List.flatten_replicate_nil]; omega))
    have h2' : (lo ++ [_])[i]? = some r := h2
    by_cases hij : i < j
    · rw [List.getElem?_append_left (by omega)] at h2'
      exact hrows i c r h1 h2'
    · have e : i = j := by
        have := (List.getElem?_eq_some_iff.1 h2').1
        simp at this; omega
      subst e
      rw [hlj] at h1
      have hcb : c = b := by simp at h1; omega
      subst hcb
      rw [← hlo, List.getElem?_concat_length] at h2'
      cases h2'
      exact hset
  · have hje : j = hh.length := by have := of_decide_eq_false hc; omega
    repeat' (first | refine g_pv rfl rfl ?_ | refine g_nil ?_ | refine gq_then ?_ | refine gc_seq ?_ | refine gc_region ?_ | refine gc_exit ?_ | refine gc_ret ?_ | refine gq_then_exit ?_ | refine gq_block_exit ?_)
    exact gq_ret2 (.inr rfl) rfl rfl rfl rfl (fun w' H => ⟨⟨_, Ah, hh, vo, lo, mo⟩, ⟨hoh, hoo, ⟨hheads, by rw [hlo, hje], hrows⟩⟩, rfl, hp_take 5 rfl (fun H => hp_take 0 rfl (fun H => hp_take 0 rfl (fun H => hp_nil H) H) H) H⟩)
end Go.Proofs.Ytpmkkmahimdjkaa

/- flow.Idom, flow.Loops, flow.Depth. -/
namespace Go.Proofs.Ytpmkkmahimdjkaa
open Go.Wk
set_option linter.unusedVariables false
set_option linter.unusedSimpArgs false
attribute [local irreducible] G GC GQ GA GS Exit.then Exit.inBlock

def IdomAns (f : TF) (y : Value × HL) : Prop := ∃ l, OwnI y.1 l y.2 ∧ if f.right then IsIdom (nxt f.code) f.code.length l else l = []
theorem idomT_sp (f : TF) (w : World) (hf : CodeIn (hw w) f.cA f.code) :
    Sp Try.prog 18 [f.val] w [] (fun y : Value × HL => .tuple #[y.1, .int .i64 (errOf f)]) (fun y => [y.2]) (IdomAns f) := by
  refine enter (s := Try.sx) [] Try.func18 rfl rfl rfl (Eff.refl w) ?_
  repeat' (first | refine g_pv rfl rfl ?_ | refine g_ld 0 rfl rfl rfl rfl rfl rfl ?_ | refine g_nil ?_ | refine gq_then ?_ | refine gc_seq ?_ | refine gc_region ?_ | refine g_box rfl rfl (fun _ => ?_))
  refine g_call rfl (Cl.of Try.func28 rfl rfl) rfl rfl (fun w' hE => drawn_sp f w' (hf.le (fun b o h => old_le hE b o (old_le0 _ w b o h)))) rfl ?_
  rintro ⟨gv, GA'⟩ hg
  dsimp only at hg ⊢
  repeat' (first | refine g_pv rfl rfl ?_ | refine g_nil ?_ | refine gq_then ?_ | refine gc_seq ?_ | refine gc_region ?_)
  cases hr : f.right with
  | false =>
    simp only [hr, if_false, Bool.false_eq_true] at hg ⊢
    repeat' (first | refine g_pv rfl rfl ?_ | refine g_nil ?_ | refine gq_then ?_ | refine gc_seq ?_ | refine gc_region ?_ | refine gc_cond_t rfl ?_ | refine gc_ret ?_ | refine gq_then_ret ?_)
    exact gq_ret2 (.inr rfl) rfl rfl rfl rfl (fun w' H => ⟨(.slice none 0 0, []), ⟨[], OwnL.nil _ _ _, by simp [hr]⟩, by simp [errOf, hr], hp_perm (hp_nil H) (by simp)⟩)
  | true =>
    simp only [hr, if_true] at hg ⊢
    obtain ⟨hn1, hn2, _, _⟩ := TF.right_n hr
    obtain ⟨gb, nv, fv, rfl, hgin⟩ := hg.grin
    repeat' (first | refine g_pv rfl rfl ?_ | refine gq_then ?_ | refine gc_seq ?_ | refine gc_region ?_ | refine gc_cond_f rfl ?_ | refine gc_skip ?_)
    refine g_call rfl (Cl.of Try.func39 rfl rfl) rfl rfl (fun w' hE => idom_sp f gb nv fv w' (hgin _ (hp_in hE 0 rfl)) hn1 hn2) rfl ?_
    rintro ⟨v2, A2, xs⟩ ⟨ho2, hid⟩
    repeat' (first | refine g_pv rfl rfl ?_ | refine g_nil ?_ | refine gq_then ?_ | refine gc_ret ?_)
    exact gq_ret2 (.inr rfl) rfl rfl rfl rfl (fun w' H => ⟨(v2, A2), ⟨_, ho2, by rw [if_pos hr]; exact hid⟩, by simp [errOf, hr], hp_take 0 rfl (fun H => hp_nil H) H⟩)

def LoopsAns (f : TF) (y : LA) : Prop := OwnI y.v y.hl y.A ∧ OwnLL y.vl y.ll y.m ∧ if f.right then IsLoops (nxt f.code) y.hl y.ll else y.hl = [] ∧ y.ll = []
theorem loopsT_sp (f : TF) (w : World) (hf : CodeIn (hw w) f.cA f.code) :
    Sp Try.prog 20 [f.val] w [] (fun y : LA => .tuple #[y.v, y.vl, .int .i64 (errOf f)]) (fun y => [y.A, y.m.A0, y.m.As.flatten]) (LoopsAns f) := by
  refine enter (s := Try.sx) [] Try.func20 rfl rfl rfl (Eff.refl w) ?_
  repeat' (first | refine g_pv rfl rfl ?_ | refine g_ld 0 rfl rfl rfl rfl rfl rfl ?_ | refine g_nil ?_ | refine gq_then ?_ | refine gc_seq ?_ | refine gc_region ?_ | refine g_box rfl rfl (fun _ => ?_))
  refine g_call rfl (Cl.of Try.func28 rfl rfl) rfl rfl (fun w' hE => drawn_sp f w' (hf.le (fun b o h => old_le hE b o (old_le0 _ w b o h)))) rfl ?_
  rintro ⟨gv, GA'⟩ hg
  dsimp only at hg ⊢
  repeat' (first | refine g_pv rfl rfl ?_ | refine g_nil ?_ | refine gq_then ?_ | refine gc_seq ?_ | refine gc_region ?_)
  cases hr : f.right with
  | false =>
    simp only [hr, if_false, Bool.false_eq_true] at hg ⊢
    repeat' (first | refine g_pv rfl rfl ?_ | refine g_nil ?_ | refine gq_then ?_ | refine gc_seq ?_ | refine gc_region ?_ | refine gc_cond_t rfl ?_ | refine gc_ret ?_ | refine gq_then_ret ?_)
    exact gq_ret3 (.inr rfl) rfl rfl rfl rfl rfl (fun w' H => ⟨⟨.slice none 0 0, [], [], .slice none 0 0, [], ⟨[], [], []⟩⟩, ⟨OwnL.nil _ _ _, ownLL_nil, by simp [hr]⟩, by simp [errOf, hr], hp_perm (hp_nil H) (by simp)⟩)
  | true =>
    simp only [hr, if_true] at hg ⊢
    obtain ⟨hn1, hn2, _, _⟩ := TF.right_n hr
    obtain ⟨gb, nv, fv, rfl, hgin⟩ := hg.grin
    repeat' (first | refine g_pv rfl rfl ?_ | refine gq_then ?_ | refine gc_seq ?_ | refine gc_region ?_ | refine gc_cond_f rfl ?_ | refine gc_skip ?_)
    refine g_call rfl (Cl.of Try.func41 rfl rfl) rfl rfl (fun w' hE => loops_sp f gb nv fv w' (hgin _ (hp_in hE 0 rfl)) hn1 hn2) rfl ?_
    rintro ⟨v, A, hl, vl, ll, m⟩ ⟨ho, hol, his⟩
    repeat' (first | refine g_pv rfl rfl ?_ | refine g_nil ?_ | refine gq_then ?_ | refine gc_seq ?_ | refine gc_region ?_ | refine gc_ret ?_)
    exact gq_ret3 (.inr rfl) rfl rfl rfl rfl rfl (fun w' H => ⟨⟨v, A, hl, vl, ll, m⟩, ⟨ho, hol, by rw [if_pos hr]; exact his⟩, by simp [errOf, hr], hp_take 0 rfl (fun H => hp_take 0 rfl (fun H => hp_take 0 rfl (fun H => hp_nil H) H) H) H⟩)

def DepthAns (f : TF) (y : Value × HL) : Prop := ∃ l, OwnI y.1 l y.2 ∧ if f.right then ∃ hl ll, IsLoops (nxt f.code) hl ll ∧ l = depL f.code.length ll else l = []
theorem dep1_snoc (ds l : List Int) (i : Int) : dep1 ds (l ++ [i]) = (dep1 ds l).set i.toNat ((dep1 ds l).getD i.toNat 0 + 1) := by simp [dep1]
theorem foldl_take {α β : Type} (f : β → α → β) (b : β) (l : List α) (k : Nat) (h : k < l.length) : (l.take (k + 1)).foldl f b = f ((l.take k).foldl f b) l[k] := by
  rw [List.take_succ_eq_append_getElem h, List.foldl_append]; rfl
theorem bnd_dep1 {l : List Int} : ∀ {ds : List Int} {c : Nat}, bnd ds c → bnd (dep1 ds l) (c + l.length) := by
  induction l with
  | nil => intro ds c h; exact h
  | cons i l ih =>
    intro ds c h
    have := ih (bnd_inc h i.toNat)
    rw [List.length_cons, show c + (l.length + 1) = c + 1 + l.length from by omega]
    exact this
theorem dep_bnd {n : Nat} {ll : List (List Int)} (hl : ∀ l ∈ ll, l.length ≤ n) : bnd (ll.foldl dep1 (List.replicate n 0)) (ll.length * n) := by
  have key : ∀ (ll : List (List Int)) (ds : List Int) (c : Nat), (∀ l ∈ ll, l.length ≤ n) → bnd ds c → bnd (ll.foldl dep1 ds) (c + ll.length * n) := by
    intro ll
    induction ll with
    | nil => intro ds c _ h; simpa using h
    | cons l ll ih =>
      intro ds c hl h
      have h1 := bnd_dep1 (l := l) h
      have h2 : bnd (dep1 ds l) (c + n) := fun v hv => by
        have := h1 v hv
        have := hl l List.mem_cons_self
        omega
      have := ih (dep1 ds l) (c + n) (fun l hl' => hl l (List.mem_cons_of_mem _ hl')) h2
      rw [List.length_cons, Nat.add_mul, Nat.one_mul, show c + (ll.length * n + n) = c + n + ll.length * n from by omega]
      exact this
  have := key ll (List.replicate n 0) 0 hl (fun v hv => by rw [List.eq_of_mem_replicate hv]; omega)
  simpa using this
theorem depF_len (n : Nat) (ll : List (List Int)) : (ll.foldl dep1 (List.replicate n 0)).length = n := by
  have key : ∀ (ll : List (List Int)) (ds : List Int), (ll.foldl dep1 ds).length = ds.length := by
    intro ll
    induction ll with
    | nil => intro ds; rfl
    | cons l ll ih => intro ds; rw [List.foldl_cons, ih, dep1_len]
  rw [key]; simp

set_option maxHeartbeats 8000000 in
theorem depthT_sp (f : TF) (w : World) (hf : CodeIn (hw w) f.cA f.code) :
    Sp Try.prog 22 [f.val] w [] (fun y : Value × HL => .tuple #[y.1, .int .i64 (errOf f)]) (fun y => [y.2]) (DepthAns f) := by
  refine enter (s := Try.sx) [] Try.func22 rfl rfl rfl (Eff.refl w) ?_
  repeat' (first | refine g_pv rfl rfl ?_ | refine g_ld 0 rfl rfl rfl rfl rfl rfl ?_ | refine g_nil ?_ | refine gq_then ?_ | refine gc_seq ?_ | refine gc_region ?_ | refine g_box rfl rfl (fun _ => ?_))
  rename_i b1
  refine g_call rfl (Cl.of Try.func28 rfl rfl) rfl rfl (fun w' hE => drawn_sp f w' (hf.le (fun b o h => old_le hE b o (old_le0 _ w b o h)))) rfl ?_
  rintro ⟨gv, GA'⟩ hg
  dsimp only at hg ⊢
  repeat' (first | refine g_pv rfl rfl ?_ | refine g_nil ?_ | refine gq_then ?_ | refine gc_seq ?_ | refine gc_region ?_)
  cases hr : f.right with
  | false =>
    simp only [hr, if_false, Bool.false_eq_true] at hg ⊢
    repeat' (first | refine g_pv rfl rfl ?_ | refine g_nil ?_ | refine gq_then ?_ | refine gc_seq ?_ | refine gc_region ?_ | refine gc_cond_t rfl ?_ | refine gc_ret ?_ | refine gq_then_ret ?_)
    exact gq_ret2 (.inr rfl) rfl rfl rfl rfl (fun w' H => ⟨(.slice none 0 0, []), ⟨[], OwnL.nil _ _ _, by simp [hr]⟩, by simp [errOf, hr], hp_perm (hp_nil H) (by simp)⟩)
  | true =>
    simp only [hr, if_true] at hg ⊢
    obtain ⟨hn1, hn2, _, _⟩ := TF.right_n hr
    obtain ⟨gb, nv, fv, rfl, hgin⟩ := hg.grin
    have F := frOf_fr f.code hn1
    repeat' (first | refine g_pv rfl rfl ?_ | refine g_ld 1 rfl rfl rfl rfl rfl rfl ?_ | refine gq_then ?_ | refine gc_seq ?_ | refine gc_region ?_ | refine gc_cond_f rfl ?_ | refine gc_skip ?_)
    refine g_make (n := f.code.length) (c := f.code.length) rfl rfl rfl rfl rfl (Nat.le_refl _) (by show 8 * _ ≤ _; omega) (by omega) rfl (fun go => ?_)
    have hoo := own_make (e := 3) (te := ⟨.int .i64, .int .i64 0, 1, 8⟩) (f := fI) (0 : Int) rfl rfl go f.code.length (by unfold maxLen; omega)
    repeat' (first | refine g_pv rfl rfl ?_ | refine g_nil ?_ | refine gq_then ?_ | refine gc_seq ?_ | refine gc_region ?_)
    refine g_call rfl (Cl.of Try.func41 rfl rfl) rfl rfl (fun w' hE => loops_sp f gb nv fv w' (hgin _ (hp_in hE 1 rfl)) hn1 hn2) rfl ?_
    rintro ⟨v, A, hl, vl, ll, m⟩ ⟨ho, hol, his⟩
    dsimp only at ho hol his ⊢
    have hhl := isset_len his.heads (fun b hb => F.lt b hb.rch)
    have hlen := his.len
    have hrow : ∀ (i : Nat) l, ll[i]? = some l → ∃ b, R0 (nxt f.code) b ∧ IsSet l (InLoop (nxt f.code) b) := fun i l hl' => by
      have hi : i < hl.length := by have := (List.getElem?_eq_some_iff.1 hl').1; omega
      obtain ⟨b, hb, hbh⟩ := (his.heads.2 hl[i]).1 (List.getElem_mem hi)
      exact ⟨b, hbh.rch, his.row i b l (by rw [← hb]; exact List.getElem?_eq_getElem hi) hl'⟩
    have hlens : ∀ l ∈ ll, l.length ≤ f.code.length := fun l hl' => by
      obtain ⟨i, hi, rfl⟩ := List.mem_iff_getElem.1 hl'
      obtain ⟨b, hb, hs⟩ := hrow i _ (List.getElem?_eq_getElem hi)
      exact isset_len hs (fun u hu => hu.lt hb hn1)
    obtain ⟨adl, capl, rfl, _⟩ := Own.shape hol.row
    have hvll := hol.len
    have hol2 := hol
    rw [hvll] at hol2
    repeat' (first | refine g_pv rfl rfl ?_ | refine g_nil ?_ | refine gq_then ?_ | refine gc_seq ?_ | refine gc_region ?_ | refine gc_block ?_)
    refine gc_eq 31 (u' := .int .i64 (ll.length : Nat)) rfl (by rw [hvll]) ?_
    refine gc_loop (Y := Nat × HL) (fun y => y.1 ≤ ll.length ∧ OwnI (.slice (some ⟨go, 0, none⟩) f.code.length f.code.length) ((ll.take y.1).foldl dep1 (List.replicate f.code.length 0)) y.2)
      (fun y => [(6, .slice (some ⟨go, 0, none⟩) f.code.length f.code.length), (30, .slice adl m.vals.length capl), (31, .int .i64 ll.length), (32, .int .i64 y.1)]) (fun y => [y.2, m.A0, m.As.flatten])
      (fun y => ll.length - y.1) (0, _) ⟨Nat.zero_le _, by simpa using hoo⟩ ⟨rfl, rfl, rfl, rfl, trivial⟩ (fun w' H => hp_take 3 rfl (fun H => hp_take 1 rfl (fun H => hp_take 1 rfl (fun H => hp_nil H) H) H) H) ?_
    rintro ⟨j, Ao⟩ ⟨hj, hao⟩
    try dsimp only at hj hao ⊢
    repeat' (first | refine g_pv rfl rfl ?_ | refine g_nil ?_ | refine gq_then ?_ | refine gc_seq ?_ | refine gc_region ?_)
    refine gc_condC rfl (fun hc => ?_) (fun hc => ?_)
    · have hlt : j < ll.length := by have := of_decide_eq_true hc; omega
      have hlj : ll[j]? = some ll[j] := List.getElem?_eq_getElem hlt
      obtain ⟨u, a, hu, ha, hua⟩ := hol.get hlt
      have htk := foldl_take dep1 (List.replicate f.code.length (0 : Int)) ll j hlt
      have hbd := dep_bnd (n := f.code.length) (ll := ll.take j) (fun l hl' => hlens l (List.mem_of_mem_take hl'))
      have hdl := depF_len f.code.length (ll.take j)
      have hll := hlens _ (List.getElem_mem hlt)
      obtain ⟨b, hb, hs⟩ := hrow j _ hlj
      generalize hD : (ll.take j).foldl dep1 (List.replicate f.code.length (0 : Int)) = D at hao htk hbd hdl
      generalize ll[j] = l at hlj hua htk hll hs
      obtain ⟨uad, ucap, rfl, _⟩ := Own.shape hua
      have hsq : (ll.take j).length * f.code.length ≤ 16384 * 16384 := Nat.mul_le_mul (by rw [List.length_take]; omega) hn2
      repeat' (first | refine gq_then ?_ | refine gc_seq ?_ | refine gc_region ?_ | refine gc_block ?_ | refine gc_skip ?_)
      refine g_atL 1 (f := fV) (q := .slice uad l.length ucap) rfl rfl hol.row (fun _ => rfl) rfl rfl rfl rfl (Int.natCast_nonneg j) (by simpa using hu) rfl rfl rfl (fun _ => ?_)
      repeat' (first | refine g_pv rfl rfl ?_ | refine g_nil ?_ | refine gq_then ?_ | refine gc_seq ?_ | refine gc_region ?_ | refine gc_block ?_)
      refine gc_loop (Y := Nat × HL) (fun y => y.1 ≤ l.length ∧ OwnI (.slice (some ⟨go, 0, none⟩) f.code.length f.code.length) (dep1 D (l.take y.1)) y.2)
        (fun y => [(6, .slice (some ⟨go, 0, none⟩) f.code.length f.code.length), (30, .slice adl m.vals.length capl), (31, .int .i64 ll.length), (32, .int .i64 j), (36, .slice uad l.length ucap), (37, .int .i64 l.length), (38, .int .i64 y.1)]) (fun y => [y.2, m.A0, m.As.flatten])
        (fun y => l.length - y.1) (0, Ao) ⟨Nat.zero_le _, hao⟩ ⟨rfl, rfl, rfl, rfl, rfl, rfl, rfl, trivial⟩ (fun w' H => H) ?_
      rintro ⟨k, A2⟩ ⟨hk, ha2⟩
      try dsimp only at hk ha2 ⊢
      repeat' (first | refine g_pv rfl rfl ?_ | refine g_nil ?_ | refine gq_then ?_ | refine gc_seq ?_ | refine gc_region ?_)
      refine gc_condC rfl (fun hc2 => ?_) (fun hc2 => ?_)
      · have hklt : k < l.length := by have := of_decide_eq_true hc2; omega
        have hkx : l[k]? = some l[k] := List.getElem?_eq_getElem hklt
        obtain ⟨x, hx, hxl⟩ := (hs.2 l[k]).1 (List.getElem_mem hklt)
        have hxn := hxl.lt hb hn1
        have hsn : l.take (k + 1) = l.take k ++ [(x : Int)] := by rw [List.take_succ_eq_append_getElem hklt, hx]
        rw [hx] at hkx
        have hbk := bnd_dep1 (l := l.take k) hbd
        have hdk : (dep1 D (l.take k)).length = f.code.length := by rw [dep1_len, hdl]
        have hdn := dep1_snoc D (l.take k) (x : Int)
        generalize dep1 D (l.take k) = E at ha2 hbk hdk hdn
        obtain ⟨e1, e2⟩ := bnd_getD hbk x
        have hge : E[x]? = some (E.getD x 0) := by simp [List.getD, List.getElem?_eq_getElem (show x < E.length by omega)]
        have htl : (l.take k).length ≤ 16384 := by rw [List.length_take]; omega
        repeat' (first | refine gq_then ?_ | refine gc_seq ?_ | refine gc_region ?_ | refine gc_block ?_ | refine gc_skip ?_)
        refine g_atG (l := l) (f := fI) (u := (x : Int)) rfl rfl rfl rfl rfl (Int.natCast_nonneg k) (by omega) (fun w' H => ?_) hkx rfl rfl rfl rfl (fun _ => ?_)
        · obtain ⟨ad', cap', he, hrd⟩ := OwnL.rd (f := fI) (fun _ => rfl) hua (H := hw w') (fun b o hb' => hp_in H 2 rfl b o (List.mem_flatten.2 ⟨a, List.mem_of_getElem? ha, hb'⟩))
          have he' := (Value.slice.inj he).1
          subst he'; exact hrd
        repeat' (first | refine g_pv rfl rfl ?_ | refine g_nil ?_ | refine gq_then ?_ | refine gc_region ?_)
        refine g_atL 0 (f := fI) (q := E.getD x 0) rfl rfl ha2 (fun _ => rfl) rfl rfl rfl rfl (Int.natCast_nonneg x) (by simpa using hge) rfl rfl rfl (fun _ => ?_)
        repeat' (refine g_pv rfl rfl ?_)
        refine g_eq 46 (u' := .int .i64 (E.getD x 0 + 1)) rfl (Option.some.inj (inc_eqZ (by omega))) ?_
        refine g_setL 0 (f := fI) (q := E.getD x 0 + 1) rfl rfl ha2 (fun _ => rfl) rfl rfl rfl rfl (Int.natCast_nonneg x) (by omega) rfl rfl rfl rfl rfl (fun _ A3 ha3 => ?_)
        rw [Int.toNat_natCast] at ha3 hdn
        repeat' (first | refine g_pv rfl rfl ?_ | refine g_nil ?_ | refine gq_then ?_ | refine gc_region ?_ | refine gq_block ?_)
        exact gq_again (k + 1, A3) ⟨hklt, by rw [hsn, hdn]; exact ha3⟩ (by simp only; omega) ⟨rfl, rfl, rfl, rfl, rfl, rfl, inc_eq (by omega), trivial⟩ (fun w' H => H)
      · have hke : k = l.length := by have := of_decide_eq_false hc2; omega
        subst hke
        rw [List.take_length] at ha2
        repeat' (first | refine g_pv rfl rfl ?_ | refine g_nil ?_ | refine gq_then ?_ | refine gc_region ?_ | refine gc_exit ?_ | refine gq_then_exit ?_ | refine gq_block ?_ | refine gq_block_exit ?_)
        exact gq_again (j + 1, A2) ⟨hlt, by simp only; rw [htk]; exact ha2⟩ (by simp only; omega) ⟨rfl, rfl, rfl, inc_eq (by omega), trivial⟩ (fun w' H => H)
    · have hje : j = ll.length := by have := of_decide_eq_false hc; omega
      subst hje
      rw [List.take_length] at hao
      repeat' (first | refine g_pv rfl rfl ?_ | refine g_nil ?_ | refine gq_then ?_ | refine gc_seq ?_ | refine gc_region ?_ | refine gc_exit ?_ | refine gc_ret ?_ | refine gq_then_exit ?_ | refine gq_block_exit ?_)
      exact gq_ret2 (.inr rfl) rfl rfl rfl rfl (fun w' H => ⟨(_, Ao), ⟨_, hao, by rw [if_pos hr]; exact ⟨hl, ll, his, rfl⟩⟩, by simp [errOf, hr], hp_take 0 rfl (fun H => hp_nil H) H⟩)
end Go.Proofs.Ytpmkkmahimdjkaa

/- The document's back. -/
namespace Go.Proofs.Ytpmkkmahimdjkaa
open Go.Wk
set_option linter.unusedVariables false
set_option linter.unusedSimpArgs false
attribute [local irreducible] G GC GQ GA GS Exit.then Exit.inBlock

set_option maxHeartbeats 8000000 in
theorem back_sp (code : List Ins) (vn : Value) (w : World) (hr : RdLL (hw w) vn (nexts code code.length)) (hn : code.length ≤ 16384) :
    Sp Try.prog 42 [vn] w [] (fun y : Value × LM => y.1) (fun y => [y.2.A0, y.2.As.flatten]) (fun y => OwnLL y.1 (fromsAt code code.length) y.2) := by
  obtain ⟨ad, cap, vals, rfl, hnr, hnvl, hnget⟩ := RdLL.get hr
  have hnl := nexts_length code
  refine enter (s := Try.sx) [] Try.func42 rfl rfl rfl (Eff.refl w) ?_
  repeat' (first | refine g_pv rfl rfl ?_ | refine g_nil ?_ | refine gq_then ?_ | refine gc_seq ?_ | refine gc_region ?_)
  refine g_eq 7 (u' := .int .i64 (code.length : Int)) rfl (by rw [hnl]) ?_
  refine g_make (n := code.length) (c := code.length) rfl rfl rfl rfl rfl (Nat.le_refl _) (by show 24 * _ ≤ _; omega) (by omega) rfl (fun g => ?_)
  have hm0 := own_nils g code.length (by unfold maxLen; omega)
  repeat' (first | refine g_pv rfl rfl ?_ | refine g_nil ?_ | refine gq_then ?_ | refine gc_seq ?_ | refine gc_region ?_ | refine gc_block ?_)
  refine gc_loop (Y := Nat × LM) (fun y => y.1 ≤ code.length ∧ OwnLL (.slice (some ⟨g, 0, none⟩) code.length code.length) (fromsAt code y.1) y.2)
    (fun y => [(0, .slice ad (nexts code code.length).length cap), (3, .slice (some ⟨g, 0, none⟩) code.length code.length), (4, .int .i64 y.1)]) (fun y => [y.2.A0, y.2.As.flatten])
    (fun y => code.length - y.1) (0, _) ⟨Nat.zero_le _, hm0⟩ ⟨rfl, rfl, rfl, trivial⟩ (fun w' H => hp_cnt (R := [[(g, .cells ⟨rep code.length [.slice none 0 0]⟩ 26 (0, 0))]]) [] H (fun a => by simp only [FM.hl, putC, Value.cells, List.cons_append, List.nil_append, List.set_cons_zero, List.set_cons_succ, List.flatten_append, List.flatten_cons, List.flatten_nil, List.count_append, List.count_cons, List.count_nil, List.append_nil, List.flatten_replicate_nil]; omega)) ?_
  rintro ⟨i, m⟩ ⟨hi, hm⟩
  try dsimp only at hi hm ⊢
  repeat' (first | refine g_pv rfl rfl ?_ | refine g_nil ?_ | refine gq_then ?_ | refine gc_seq ?_ | refine gc_region ?_)
  refine gc_condC rfl (fun hc => ?_) (fun hc => ?_)
  · have hlt : i < code.length := by have := of_decide_eq_true hc; omega
    obtain ⟨u, hu, uad, ucap, hue, hur⟩ := hnget i (nxt code i) (by simp [nexts, hlt])
    subst hue
    have hks := nxt_len code i
    have hkin := nxt_in code i
    have hsucc := fromsAt_succ code i
    generalize nxt code i = ks at hu hur hks hkin hsucc
    repeat' (first | refine g_pv rfl rfl ?_ | refine g_nil ?_ | refine gq_then ?_ | refine gc_seq ?_ | refine gc_region ?_ | refine gc_block ?_ | refine gc_skip ?_)
    refine gc_loop (Y := Nat × LM) (fun y => y.1 ≤ ks.length ∧ OwnLL (.slice (some ⟨g, 0, none⟩) code.length code.length) (addR (fromsAt code i) i (ks.take y.1)) y.2)
      (fun y => [(0, .slice ad (nexts code code.length).length cap), (3, .slice (some ⟨g, 0, none⟩) code.length code.length), (4, .int .i64 i), (5, .int .i64 y.1)]) (fun y => [y.2.A0, y.2.As.flatten])
      (fun y => ks.length - y.1) (0, m) ⟨Nat.zero_le _, by simpa [addR] using hm⟩ ⟨rfl, rfl, rfl, rfl, trivial⟩ (fun w' H => H) ?_
    rintro ⟨j, mg⟩ ⟨hj, hmg⟩
    try dsimp only at hj hmg ⊢
    repeat' (first | refine g_pv rfl rfl ?_ | refine gc_seq ?_ | refine gc_region ?_)
    refine g_at (l := vals) (f := fV) (u := .slice uad ks.length ucap) rfl rfl rfl rfl rfl (Int.natCast_nonneg i) (by omega) (hnr.le (old_le0 _ w)) hu rfl rfl rfl rfl (fun _ => ?_)
    repeat' (first | refine g_pv rfl rfl ?_ | refine g_nil ?_ | refine gq_then ?_)
    refine gc_condC rfl (fun hc3 => ?_) (fun hc3 => ?_)
    · have hjlt : j < ks.length := by have := of_decide_eq_true hc3; omega
      have hkk := hkin _ (List.getElem_mem hjlt)
      have hjk : ks[j]? = some ks[j] := List.getElem?_eq_getElem hjlt
      have htk := addR_take (fromsAt code i) i ks j hjlt
      have hlens : lens (addR (fromsAt code i) i (ks.take j)) (2 * i + j) := by
        have := lens_addR (i := i) (ks := ks.take j) (lens_froms code i)
        intro l hl; have h1 := this l hl; have h2 := List.length_take_le j ks; omega
      have hfl : (addR (fromsAt code i) i (ks.take j)).length = code.length := by rw [addR_length, fromsAt_length]
      generalize ks[j] = kk at hkk hjk htk
      generalize hlld : addR (fromsAt code i) i (ks.take j) = ll at hmg hlens hfl htk
      have hkn : kk.toNat < ll.length := by omega
      obtain ⟨u2, a, hu2, ha, hoa⟩ := hmg.get hkn
      have hla : ll[kk.toNat].length ≤ 2 * i + j := hlens _ (List.getElem_mem hkn)
      have hgd : ll.getD kk.toNat [] = ll[kk.toNat] := by simp [List.getD, List.getElem?_eq_getElem hkn]
      have haddF : addF ll kk i = ll.set kk.toNat (ll[kk.toNat] ++ [(i : Int)]) := by rw [addF, hgd]
      generalize ll[kk.toNat] = lk' at hoa hla haddF
      have hvg : mg.vals.length = code.length := by rw [hmg.len, hfl]
      have hag : mg.As.length = code.length := by rw [hmg.alen, hfl]
      have hk2 : kk.toNat < mg.As.length := by omega
      obtain ⟨adu, capu, hue, _⟩ := Own.shape hoa
      subst hue
      repeat' (first | refine gq_then ?_ | refine gc_seq ?_ | refine gc_block ?_ | refine gc_skip ?_)
      refine gc_draw [mg.A0] [_] rfl (List.Perm.refl _) ?_
      (refine ga_p 0 (by repeat first | exact NoP.sp | apply NoP.then | apply NoP.block) rfl (pv_spec rfl) rfl (by kernel_rfl) (by kernel_rfl) (by kernel_rfl) ?_); (refine ga_p 1 (by repeat first | exact NoP.sp | apply NoP.then | apply NoP.block) rfl (pv_spec rfl) rfl (by kernel_rfl) (by kernel_rfl) (by kernel_rfl) ?_); (refine ga_p 2 (by repeat first | exact NoP.sp | apply NoP.then | apply NoP.block) rfl (pv_spec rfl) rfl (by kernel_rfl) (by kernel_rfl) (by kernel_rfl) ?_)
      refine ga_at 3 4 (l := vals) (f := fV) (u := .slice uad ks.length ucap) (by repeat first | exact NoP.sp | apply NoP.then | apply NoP.block) rfl wanted_none rfl (fun a _ => wanted_none a) rfl rfl rfl rfl rfl (Int.natCast_nonneg i) (by omega) (still_rdO (hnr.le (old_le0 _ w))) hu rfl rfl rfl rfl (by kernel_rfl) (by kernel_rfl) (by kernel_rfl) (by kernel_rfl) (by kernel_rfl) (fun _ => ?_)
      (refine ga_p 5 (by repeat first | exact NoP.sp | apply NoP.then | apply NoP.block) rfl (pv_spec rfl) rfl (by kernel_rfl) (by kernel_rfl) (by kernel_rfl) ?_)
      refine ga_at 6 7 (l := ks) (f := fI) (u := kk) (by repeat first | exact NoP.sp | apply NoP.then | apply NoP.block) rfl wanted_none rfl (fun a _ => wanted_none a) rfl rfl rfl rfl rfl (Int.natCast_nonneg j) (by omega) (still_rdO (hur.le (old_le0 _ w))) hjk rfl rfl rfl rfl (by kernel_rfl) (by kernel_rfl) (by kernel_rfl) (by kernel_rfl) (by kernel_rfl) (fun _ => ?_)
      (refine ga_p 8 (by repeat first | exact NoP.sp | apply NoP.then | apply NoP.block) rfl (pv_spec rfl) rfl (by kernel_rfl) (by kernel_rfl) (by kernel_rfl) ?_); (refine ga_p 9 (by repeat first | exact NoP.sp | apply NoP.then | apply NoP.block) rfl (pv_spec rfl) rfl (by kernel_rfl) (by kernel_rfl) (by kernel_rfl) ?_); (refine ga_p 10 (by repeat first | exact NoP.sp | apply NoP.then | apply NoP.block) rfl (pv_spec rfl) rfl (by kernel_rfl) (by kernel_rfl) (by kernel_rfl) ?_)
      refine ga_at 11 12 (l := vals) (f := fV) (u := .slice uad ks.length ucap) (by repeat first | exact NoP.sp | apply NoP.then | apply NoP.block) rfl wanted_none rfl (fun a _ => wanted_none a) rfl rfl rfl rfl rfl (Int.natCast_nonneg i) (by omega) (still_rdO (hnr.le (old_le0 _ w))) hu rfl rfl rfl rfl (by kernel_rfl) (by kernel_rfl) (by kernel_rfl) (by kernel_rfl) (by kernel_rfl) (fun _ => ?_)
      (refine ga_p 13 (by repeat first | exact NoP.sp | apply NoP.then | apply NoP.block) rfl (pv_spec rfl) rfl (by kernel_rfl) (by kernel_rfl) (by kernel_rfl) ?_)
      refine ga_at 14 15 (l := ks) (f := fI) (u := kk) (by repeat first | exact NoP.sp | apply NoP.then | apply NoP.block) rfl wanted_none rfl (fun a _ => wanted_none a) rfl rfl rfl rfl rfl (Int.natCast_nonneg j) (by omega) (still_rdO (hur.le (old_le0 _ w))) hjk rfl rfl rfl rfl (by kernel_rfl) (by kernel_rfl) (by kernel_rfl) (by kernel_rfl) (by kernel_rfl) (fun _ => ?_)
      refine ga_at 16 17 (l := mg.vals) (f := fV) (u := .slice adu lk'.length capu) (by repeat first | exact NoP.sp | apply NoP.then | apply NoP.block) rfl wanted_none rfl (fun a _ => wanted_none a) rfl rfl rfl rfl rfl hkk.1 (by omega) (still_rd 0 rfl (fun _ => rfl) hmg.row rfl) hu2 rfl rfl rfl rfl (by kernel_rfl) (by kernel_rfl) (by kernel_rfl) (by kernel_rfl) (by kernel_rfl) (fun _ => ?_)
      (refine ga_p 18 (by repeat first | exact NoP.sp | apply NoP.then | apply NoP.block) rfl (pv_spec rfl) rfl (by kernel_rfl) (by kernel_rfl) (by kernel_rfl) ?_)
      refine ga_one (i := 19) (by kernel_rfl) (gs_of rfl (fun K hK => ?_))
      refine g_litL rfl rfl rfl rfl rfl rfl rfl rfl rfl rfl (fun g2 => ?_)
      refine g_nil ?_
      refine hK _ _ ⟨_ :: [_], List.perm_middle⟩ ?_
      refine ga_one (i := 20) (by kernel_rfl) (gs_of rfl (fun K hK => ?_))
      refine g_heap (R' := [a, [(g2, .cells ⟨[.int .i64 (i : Nat)]⟩ 3 (0, 0))], mg.A0, (mg.As.eraseIdx kk.toNat).flatten]) (fun w' H => hp_cnt (R := [[(g2, .cells ⟨[.int .i64 (i : Nat)]⟩ 3 (0, 0))], mg.A0, mg.As.flatten]) [] H (fun x => by
        have e1 := cnt_erase mg.As kk.toNat ha x
        simp only [List.cons_append, List.nil_append, List.set_cons_zero, List.set_cons_succ, List.flatten_append, List.flatten_cons, List.flatten_nil, List.count_append, List.count_cons, List.count_nil, List.append_nil]
        omega)) ?_
      refine g_appL 0 (m := [(i : Int)]) (f := fI) rfl rfl rfl rfl rfl rfl rfl hoa (fun _ => rfl) (fun w' hE => ?_) (fun _ => rfl) (by unfold maxLen; simp; omega) (by show _ * 8 ≤ _; simp; omega) rfl (fun v' A' ho' => ?_)
      · obtain ⟨ad', cap', he, hr⟩ := OwnI.rd (own_lit1 g2 (i : Int)) (H := hw w') (fun b o hb => hp_in hE 1 rfl b o hb)
        cases he; exact hr
      refine g_heap (R' := [mg.A0, A', (mg.As.eraseIdx kk.toNat).flatten]) (fun w' H => hp_cnt [(g2, .cells ⟨[.int .i64 (i : Nat)]⟩ 3 (0, 0))] H (fun a => by simp only [FM.hl, putC, Value.cells, List.cons_append, List.nil_append, List.set_cons_zero, List.set_cons_succ, List.flatten_append, List.flatten_cons, List.flatten_nil, List.count_append, List.count_cons, List.count_nil, List.append_nil, List.flatten_replicate_nil]; omega)) ?_
      refine g_nil ?_
      refine hK _ _ ⟨[_, _], List.Perm.refl _⟩ ?_
      refine ga_p 21 (by repeat first | exact NoP.sp | apply NoP.then | apply NoP.block) rfl (p_ix rfl rfl rfl rfl hkk.1 hkk.2) rfl (by kernel_rfl) (by kernel_rfl) (by kernel_rfl) ?_
      refine ga_one (i := 22) (by kernel_rfl) (gs_last rfl (by kernel_rfl) (by kernel_rfl) (fun K hK => ?_))
      refine g_stL 0 (f := fV) (q := v') (i := kk.toNat) rfl rfl rfl rfl hmg.row (fun _ => rfl) (by simp) (by omega) ?_ ?_ (fun A0g hr0 => ?_)
      · obtain ⟨_, _, rfl, _⟩ := Own.shape ho'; rfl
      · obtain ⟨_, _, rfl, _⟩ := Own.shape ho'; rfl
      refine g_nil ?_
      refine hK _ _ ?_
      repeat' (first | refine g_pv rfl rfl ?_ | refine g_nil ?_ | refine gq_then ?_ | refine gc_region ?_ | refine gq_block ?_)
      have hput := hmg.put ho' hr0
      rw [← haddF, ← htk] at hput
      refine gq_again (j + 1, ⟨A0g, mg.As.set kk.toNat A', mg.vals.set kk.toNat v'⟩) ⟨hjlt, hput⟩ (by simp only; omega) ⟨rfl, rfl, rfl, inc_eq (by omega), trivial⟩ (fun w' H => hp_cnt [] H (fun x => ?_))
      have e2 := cnt_set mg.As kk.toNat (B := A') hk2 x
      simp only [List.cons_append, List.nil_append, List.set_cons_zero, List.set_cons_succ, List.flatten_append, List.flatten_cons, List.flatten_nil, List.count_append, List.count_cons, List.count_nil, List.append_nil]
      omega
    · have hjge : j = ks.length := by have := of_decide_eq_false hc3; omega
      rw [hjge, List.take_length, ← hsucc] at hmg
      repeat' (first | refine g_pv rfl rfl ?_ | refine g_nil ?_ | refine gq_then ?_ | refine gc_region ?_ | refine gc_exit ?_ | refine gq_then_exit ?_ | refine gq_block ?_ | refine gq_block_exit ?_)
      exact gq_again (i + 1, mg) ⟨hlt, hmg⟩ (by simp only; omega) ⟨rfl, rfl, inc_eq (by omega), trivial⟩ (fun w' H => H)
  · have hge : i = code.length := by have := of_decide_eq_false hc; omega
    subst hge
    repeat' (first | refine g_pv rfl rfl ?_ | refine g_nil ?_ | refine gq_then ?_ | refine gc_seq ?_ | refine gc_region ?_ | refine gc_exit ?_ | refine gc_ret ?_ | refine gq_then_exit ?_ | refine gq_block_exit ?_)
    exact gq_ret1 (.inr rfl) rfl rfl rfl (fun w' H => ⟨(_, m), hm, rfl, H⟩)
end Go.Proofs.Ytpmkkmahimdjkaa
