/-
  The document's edges.
  The document's Flood.
  The document's Reach.
  Fields of elements of one's own, by their addresses.
  The order in which a search leaves what it has come to.
-/
import Derived.Test.YtpmkkmahimdjkaaZ10
import Derived.Test.YtpmkkmahimdjkaaZ8

/- The document's edges. -/
namespace Go.Proofs.Ytpmkkmahimdjkaa
open Go.Wk
set_option linter.unusedVariables false
set_option linter.unusedSimpArgs false
attribute [local irreducible] G GC GQ GA GS Exit.then Exit.inBlock

theorem OwnLL.push {v v' u : Value} {ll : List (List Int)} {m : LM} {l : List Int} {a A0' : HL} (h : OwnLL v ll m) (ho : OwnI u l a) (hr : OwnL 26 1 fV v' (m.vals ++ [u]) A0') :
    OwnLL v' (ll ++ [l]) ⟨A0', m.As ++ [a], m.vals ++ [u]⟩ := by
  refine ⟨by simp [h.len], by simp [h.alen], hr, fun j u' l' a' h1 h2 h3 => ?_⟩
  simp only at h1 h2 h3
  by_cases hj : j < ll.length
  · rw [List.getElem?_append_left (by rw [h.len]; exact hj)] at h1
    rw [List.getElem?_append_left hj] at h2
    rw [List.getElem?_append_left (by rw [h.alen]; exact hj)] at h3
    exact h.at' j u' l' a' h1 h2 h3
  · have hj' : j = ll.length := by
      have := (List.getElem?_eq_some_iff.1 h2).1
      simp at this; omega
    subst hj'
    rw [← h.len, List.getElem?_concat_length] at h1
    rw [List.getElem?_concat_length] at h2
    rw [← h.alen, List.getElem?_concat_length] at h3
    cases h1; cases h2; cases h3
    exact ho
theorem ownLL_nil : OwnLL (.slice none 0 0) [] ⟨[], [], []⟩ := ⟨rfl, rfl, OwnL.nil _ _ _, fun i u l a h => by simp at h⟩
def nexts (code : List Ins) (i : Nat) : List (List Int) := (List.range i).map (nxt code)
theorem nexts_succ (code : List Ins) (i : Nat) : nexts code (i + 1) = nexts code i ++ [nxt code i] := by simp [nexts, List.range_succ]
theorem nexts_all (code : List Ins) : nextsAt code code.length = nexts code code.length := by simp [nextsAt, nexts]

theorem rnext_sp' (l : List Ins) (i : Nat) (ad : Option Addr) (cap : Nat) (w : World) (hc : CodeIn (hw w) ad l) (hi : i < l.length) :
    Sp Try.prog 25 [.slice ad l.length cap, .int .i64 i] w [] (fun y : Value × HL => y.1) (fun y => [y.2]) (fun y => OwnI y.1 (nxt l i) y.2) := by
  have h := rnext_sp l i ad cap w hc hi
  have e : nxt l i = nextL l.length l[i] i := by simp [nxt, List.getElem?_eq_getElem hi]
  rw [e]; exact h

structure ES where
  i : Nat
  v : Value
  m : LM

theorem edges_sp (f : TF) (w : World) (hf : CodeIn (hw w) f.cA f.code) (hn : f.code.length ≤ 16384) :
    Sp Try.prog 32 [f.val] w [] (fun y : Value × LM => y.1) (fun y => [y.2.A0, y.2.As.flatten]) (fun y => OwnLL y.1 (nexts f.code f.code.length) y.2) := by
  refine enter (s := Try.sx) [] Try.func32 rfl rfl rfl (Eff.refl w) ?_
  repeat' (first | refine g_pv rfl rfl ?_ | refine g_nil ?_ | refine gq_then ?_ | refine gc_seq ?_ | refine gc_region ?_ | refine gc_block ?_ | refine g_box rfl rfl (fun _ => ?_))
  rename_i b1
  refine gc_loop (Y := ES) (fun y => y.i ≤ f.code.length ∧ OwnLL y.v (nexts f.code y.i) y.m)
    (fun y => [(1, .pointer (some ⟨b1, 0, none⟩)), (3, y.v), (4, .int .i64 y.i)]) (fun y => [y.m.A0, y.m.As.flatten, [(b1, .cells ⟨f.cells⟩ 25 (0, 0))]])
    (fun y => f.code.length - y.i) ⟨0, _, _⟩ ⟨Nat.zero_le _, ownLL_nil⟩ ⟨rfl, rfl, rfl, trivial⟩ (fun w' H => hp_perm H (by simp; rfl)) ?_
  rintro ⟨i, v, m⟩ ⟨hi, hm⟩
  try dsimp only at hi hm ⊢
  repeat' (first | refine g_pv rfl rfl ?_ | refine g_ld 2 rfl rfl rfl rfl rfl rfl ?_ | refine g_nil ?_ | refine gq_then ?_ | refine gc_seq ?_ | refine gc_region ?_)
  refine gc_condC rfl (fun hc => ?_) (fun hc => ?_)
  · have hlt : i < f.code.length := by have := of_decide_eq_true hc; omega
    have hvl : m.vals.length = i := by rw [hm.len]; simp [nexts]
    repeat' (first | refine g_pv rfl rfl ?_ | refine g_ld 2 rfl rfl rfl rfl rfl rfl ?_ | refine gq_then ?_ | refine gc_seq ?_ | refine gc_region ?_ | refine gc_block ?_ | refine gc_skip ?_)
    refine g_call rfl (Cl.of Try.func25 rfl rfl) rfl rfl (fun w' hE => rnext_sp' f.code i f.cA f.cC w' (hf.le (fun b o h => old_le hE b o (old_le0 _ w b o h))) hlt) rfl ?_
    rintro ⟨v16, A16⟩ ho16
    dsimp only at ho16 ⊢
    have hcell : v16.cells = ⟨fV v16⟩ ∧ (v16.oneCell') = true := by obtain ⟨_, _, rfl, _⟩ := Own.shape ho16; exact ⟨rfl, rfl⟩
    refine g_app1L 1 (f := fV) (q := v16) rfl rfl rfl rfl rfl rfl rfl rfl hcell.1 rfl rfl (by simp [hcell.2]) hm.row (by unfold maxLen; omega) (by show _ * 24 ≤ _; omega) rfl rfl (fun v4 A4 g4 ho4 => ?_)
    repeat' (first | refine g_pv rfl rfl ?_ | refine g_nil ?_ | refine gq_then ?_ | refine gc_region ?_ | refine gq_block ?_)
    refine gq_again ⟨i + 1, v4, ⟨A4, m.As ++ [A16], m.vals ++ [v16]⟩⟩ ⟨hlt, by rw [nexts_succ]; exact hm.push ho16 ho4⟩ (by simp only; omega) ⟨rfl, rfl, inc_eq (by omega), trivial⟩ (fun w' H => hp_cnt [] H (fun a => by simp only [List.cons_append, List.nil_append, List.set_cons_zero, List.set_cons_succ, List.flatten_append, List.flatten_cons, List.flatten_nil, List.count_append, List.count_cons, List.count_nil, List.append_nil, List.flatten_replicate_nil]; omega))
  · have hge : i = f.code.length := by have := of_decide_eq_false hc; omega
    subst hge
    repeat' (first | refine g_pv rfl rfl ?_ | refine g_nil ?_ | refine gq_then ?_ | refine gc_seq ?_ | refine gc_region ?_ | refine gc_exit ?_ | refine gc_ret ?_ | refine gq_then_exit ?_ | refine gq_block_exit ?_)
    exact gq_ret1 (.inr rfl) rfl rfl rfl (fun w' H => ⟨(v, m), hm, rfl, hp_cnt [(b1, .cells ⟨f.cells⟩ 25 (0, 0))] H (fun a => by simp only [List.cons_append, List.nil_append, List.set_cons_zero, List.set_cons_succ, List.flatten_append, List.flatten_cons, List.flatten_nil, List.count_append, List.count_cons, List.count_nil, List.append_nil, List.flatten_replicate_nil]; omega)⟩)
end Go.Proofs.Ytpmkkmahimdjkaa

/- The document's Flood. -/
namespace Go.Proofs.Ytpmkkmahimdjkaa
open Go.Wk
set_option linter.unusedVariables false
set_option linter.unusedSimpArgs false
attribute [local irreducible] G GC GQ GA GS Exit.then Exit.inBlock

/-- Where one goes on, but never to wo. -/
def esw (ll : List (List Int)) (wo : Int) (u : Nat) : List Int := (ll.getD u []).filter fun k => decide (k ≠ wo)
def srcw (s : Nat) (wo : Int) : List Int := if (s : Int) = wo then [] else [(s : Int)]
def unm (bs : List Bool) : Nat := bs.count false
theorem unm_set {bs : List Bool} {i : Nat} (h : bs[i]? = some false) : unm (bs.set i true) + 1 = unm bs := by
  induction bs generalizing i with
  | nil => simp at h
  | cons b bs ih =>
    cases i with
    | zero => simp at h; subst h; simp [unm]
    | succ i =>
      have := ih (i := i) (by simpa using h)
      unfold unm at this ⊢
      simp only [List.set_cons_succ, List.count_cons]
      omega
theorem unm_le (bs : List Bool) : unm bs ≤ bs.length := List.count_le_length

structure FB where
  g : Nat
  bs : List Bool
  A : HL
structure WS where
  bs : List Bool
  Ab : HL
  wait : List Int
  v8 : Value
  A8 : HL

def mk' (bs : List Bool) (u : Nat) : Prop := bs.getD u false = true
theorem mk_set {bs : List Bool} {i u : Nat} (h : i < bs.length) : mk' (bs.set i true) u ↔ u = i ∨ mk' bs u := by
  unfold mk'; rw [getD_set _ _ _ h]; simp
theorem getD_some {bs : List Bool} {i : Nat} (h : i < bs.length) : bs[i]? = some (bs.getD i false) := by
  simp [List.getD, List.getElem?_eq_getElem h]

/-- What holds in Flood; of those in skip the successors may still be missing. -/
structure WInv (ll : List (List Int)) (wo : Int) (s : List Int) (g : Nat) (skip : Nat → Prop) (y : WS) : Prop where
  bl : y.bs.length = ll.length
  ob : OwnL 4 1 fB (.slice (some ⟨g, 0, none⟩) ll.length ll.length) y.bs y.Ab
  ow : OwnI y.v8 y.wait y.A8
  sub : ∀ u, u < ll.length → mk' y.bs u → Rch (esw ll wo) s u
  wt : ∀ k ∈ y.wait, ∃ u : Nat, k = u ∧ u < ll.length ∧ mk' y.bs u
  src : ∀ k ∈ s, mk' y.bs k.toNat
  cls : ∀ u, u < ll.length → mk' y.bs u → ¬ skip u → (u : Int) ∈ y.wait ∨ ∀ k ∈ esw ll wo u, mk' y.bs k.toNat
  bd : y.wait.length + 2 * unm y.bs ≤ 4 * ll.length + 4

theorem esw_in {ll : List (List Int)} (hin : ∀ l ∈ ll, InR ll.length l) (wo : Int) : ∀ u, u < ll.length → InR ll.length (esw ll wo u) := fun u hu k hk => by
  have h1 : k ∈ ll.getD u [] := (List.mem_filter.1 hk).1
  have h2 : ll.getD u [] = ll[u] := by simp [List.getD, List.getElem?_eq_getElem hu]
  rw [h2] at h1
  exact hin _ (List.getElem_mem hu) k h1

set_option maxHeartbeats 8000000 in
theorem flood_sp (ll : List (List Int)) (vn : Value) (s : Nat) (wo : Int) (w : World) (hr : RdLL (hw w) vn ll) (hin : ∀ l ∈ ll, InR ll.length l) (hs : s < ll.length) (hn : ll.length ≤ 16384) (hll : ∀ l ∈ ll, l.length ≤ 1000000) :
    Sp Try.prog 26 [vn, .int .i64 s, .int .i64 wo] w [] (fun y : FB => .slice (some ⟨y.g, 0, none⟩) ll.length ll.length) (fun y => [y.A])
      (fun y => y.bs.length = ll.length ∧ OwnL 4 1 fB (.slice (some ⟨y.g, 0, none⟩) ll.length ll.length) y.bs y.A ∧ ∀ u, u < ll.length → (mk' y.bs u ↔ Rch (esw ll wo) (srcw s wo) u)) := by
  refine enter (s := Try.sx) [] Try.func26 rfl rfl rfl (Eff.refl w) ?_
  obtain ⟨ad, cap, vals, rfl, hrd, hvl, hget⟩ := RdLL.get hr
  repeat' (first | refine g_pv rfl rfl ?_ | refine g_nil ?_ | refine gq_then ?_ | refine gc_seq ?_ | refine gc_region ?_)
  refine g_make (n := ll.length) (c := ll.length) rfl rfl rfl rfl rfl (Nat.le_refl _) (by show 1 * _ ≤ _; omega) (by omega) rfl (fun g => ?_)
  have ho0 := own_bools g ll.length (by unfold maxLen; omega)
  have hun : unm (List.replicate ll.length false) ≤ ll.length := by have := unm_le (List.replicate ll.length false); simpa using this
  repeat' (first | refine g_pv rfl rfl ?_ | refine g_nil ?_ | refine gq_then ?_ | refine gc_seq ?_ | refine gc_region ?_)
  refine gc_condC rfl (fun hq => ?_) (fun hq => ?_)
  · have hq' : (s : Int) = wo := by simpa using hq
    repeat' (first | refine g_pv rfl rfl ?_ | refine g_nil ?_ | refine gq_then ?_ | refine gc_seq ?_ | refine gc_region ?_ | refine gc_ret ?_ | refine gq_then_ret ?_)
    refine gq_ret1 (.inr rfl) rfl rfl rfl (fun w' H => ⟨⟨g, _, _⟩, ⟨by simp, ho0, fun u hu => ?_⟩, rfl, hp_take 0 rfl (fun H => hp_nil H) H⟩)
    constructor
    · intro h; simp [mk', List.getD, List.getElem?_replicate, hu] at h
    · intro h
      exfalso
      have : srcw s wo = [] := by simp [srcw, hq']
      rw [this] at h
      induction h with
      | base h => cases h
      | step _ _ ih => exact ih (by
          have := Rch.lt (n := ll.length) (s := []) (es := esw ll wo) (fun _ h => by cases h) (esw_in hin wo) (by assumption)
          exact this)
  · have hq' : (s : Int) ≠ wo := by simpa using hq
    have hsrc : srcw s wo = [(s : Int)] := by simp [srcw, hq']
    rw [hsrc]
    repeat' (first | refine g_pv rfl rfl ?_ | refine gq_then ?_ | refine gc_seq ?_ | refine gc_region ?_ | refine gc_skip ?_)
    refine g_setL 0 (f := fB) (q := true) rfl rfl ho0 (fun _ => rfl) rfl rfl rfl rfl (by omega) (by simp; omega) rfl rfl rfl rfl rfl (fun _ A1 ho1 => ?_)
    repeat' (first | refine g_pv rfl rfl ?_ | refine g_nil ?_ | refine gq_then ?_ | refine gc_seq ?_ | refine gc_region ?_)
    refine g_litL rfl rfl rfl rfl rfl rfl rfl rfl rfl rfl (fun g8 => ?_)
    repeat' (first | refine g_pv rfl rfl ?_ | refine g_nil ?_ | refine gq_then ?_ | refine gc_seq ?_ | refine gc_block ?_)
    refine gc_loop (Y := WS) (WInv ll wo [(s : Int)] g (fun _ => False))
      (fun y => [(0, .slice ad ll.length cap), (2, .int .i64 wo), (7, .slice (some ⟨g, 0, none⟩) ll.length ll.length), (8, y.v8)]) (fun y => [y.A8, y.Ab])
      (fun y => y.wait.length + 2 * unm y.bs) ⟨(List.replicate ll.length false).set s true, A1, [(s : Int)], _, _⟩ ⟨by simp, ho1, own_lit1 g8 s, fun u hu h => ?_, fun k hk => ?_, fun k hk => ?_, fun u hu h _ => ?_, ?_⟩ ⟨rfl, rfl, rfl, rfl, trivial⟩ (fun w' H => H) ?_
    · rcases (mk_set (by simp; omega)).1 h with h1 | h1
      · subst h1; exact Rch.base (by simp)
      · simp [mk', List.getD, List.getElem?_replicate, hu] at h1
    · simp at hk; subst hk; exact ⟨s, rfl, hs, (mk_set (by simp; omega)).2 (.inl rfl)⟩
    · simp at hk; subst hk; exact (mk_set (by simp; omega)).2 (.inl (by simp))
    · rcases (mk_set (by simp; omega)).1 h with h1 | h1
      · subst h1; exact .inl (by simp)
      · simp [mk', List.getD, List.getElem?_replicate, hu] at h1
    · have := unm_set (bs := List.replicate ll.length false) (i := s) (by simp [List.getElem?_replicate, hs])
      show [(s : Int)].length + 2 * unm ((List.replicate ll.length false).set s true) ≤ _
      simp only [List.length_singleton]; omega
    rintro ⟨bs, Ab, wait, v8, A8⟩ hI
    have hown : OwnI v8 wait A8 := hI.ow
    have hbd : wait.length + 2 * unm bs ≤ 4 * ll.length + 4 := hI.bd
    dsimp only
    repeat' (first | refine g_pv rfl rfl ?_ | refine gc_seq ?_ | refine gc_region ?_)
    refine g_lenL rfl hown rfl rfl ?_
    repeat' (first | refine g_pv rfl rfl ?_ | refine g_nil ?_ | refine gq_then ?_)
    refine gc_condC rfl (fun hc => ?_) (fun hc => ?_)
    · have hpos : 0 < wait.length := by have := of_decide_eq_true hc; omega
      obtain ⟨ws, x, rfl⟩ := pop_ex hpos
      obtain ⟨ad8, cap8, rfl, _⟩ := Own.shape hown
      have hwl : (ws ++ [x]).length = ws.length + 1 := by simp
      have e17 : ∀ t : Nat, some (Value.int IntKind.i64 (IntKind.i64.wrap (((ws ++ [x]).length : Int) - 1))) = some (Value.int .i64 (ws.length : Int)) := fun _ => by
        rw [hwl, IntKind.wrap_i64]; congr 2; omega
      obtain ⟨i, hxi, hin', hmi⟩ := hI.wt x (by simp)
      subst hxi
      repeat' (first | refine g_pv rfl rfl ?_ | refine gq_then ?_ | refine gc_seq ?_ | refine gc_region ?_ | refine gc_block ?_ | refine gc_skip ?_)
      refine g_eq 30 rfl (Option.some.inj (e17 0)) ?_
      refine g_atL 0 rfl rfl hown (fun _ => rfl) rfl rfl rfl rfl (Int.natCast_nonneg _) (q := (i : Int)) (by simp) rfl rfl rfl (fun _ => ?_)
      repeat' (first | refine g_pv rfl rfl ?_ | refine g_nil ?_ | refine gq_then ?_ | refine gc_seq ?_ | refine gc_region ?_)
      refine g_eq 36 rfl (Option.some.inj (e17 0)) ?_
      have hcap : (ws ++ [(i : Int)]).length ≤ cap8 := by
        obtain ⟨g', cap', rst, hv, _, h3, _⟩ := Own.pos hown (by simp)
        cases hv; exact h3
      refine g_hi rfl rfl rfl rfl (by rw [hwl] at hcap; omega) rfl ?_
      have hown' := own_pop hown
      have hli : ll[i]? = some ll[i] := List.getElem?_eq_getElem hin'
      have hgd : ll.getD i [] = ll[i] := by simp [List.getD, hli]
      obtain ⟨u, hu, uad, ucap, hue, hur⟩ := hget i _ hli
      subst hue
      have hrow := hin _ (List.getElem_mem hin')
      have hrl := hll _ (List.getElem_mem hin')
      have hesw : esw ll wo i = ll[i].filter (fun k => decide (k ≠ wo)) := by unfold esw; rw [hgd]
      have hri := hI.sub i hin' hmi
      generalize ll[i] = row at hli hgd hu hur hrow hesw hrl
      repeat' (first | refine g_pv rfl rfl ?_ | refine g_nil ?_ | refine gq_then ?_ | refine gc_seq ?_ | refine gc_region ?_ | refine gc_block ?_)
      refine gc_loop (Y := Nat × WS) (fun y => y.1 ≤ row.length ∧ WInv ll wo [(s : Int)] g (fun u => u = i) y.2 ∧ (∀ k ∈ row.take y.1, k ≠ wo → mk' y.2.bs k.toNat) ∧ y.2.wait.length + 2 * unm y.2.bs < (ws ++ [(i : Int)]).length + 2 * unm bs)
        (fun y => [(0, .slice ad ll.length cap), (2, .int .i64 wo), (7, .slice (some ⟨g, 0, none⟩) ll.length ll.length), (8, y.2.v8), (9, .int .i64 i), (10, .int .i64 y.1)]) (fun y => [y.2.A8, y.2.Ab])
        (fun y => row.length - y.1) (0, ⟨bs, Ab, ws, .slice ad8 ws.length cap8, A8⟩) ⟨Nat.zero_le _, ⟨hI.bl, hI.ob, hown', hI.sub, fun k h => hI.wt k (List.mem_append_left _ h), hI.src, fun u hu h hne => ?_, by simp only; omega⟩, by simp, by simp only; omega⟩ ⟨rfl, rfl, rfl, rfl, rfl, rfl, trivial⟩ (fun w' H => H) ?_
      · rcases hI.cls u hu h (fun h => h) with h1 | h1
        · rcases List.mem_append.1 h1 with h2 | h2
          · exact .inl h2
          · simp at h2; exact absurd (by omega) hne
        · exact .inr h1
      rintro ⟨k, ⟨bs2, Ab2, wait2, v82, A82⟩⟩ ⟨hk, hJ, hkm, hmu⟩
      have hown2 : OwnI v82 wait2 A82 := hJ.ow
      have hob2 : OwnL 4 1 fB (.slice (some ⟨g, 0, none⟩) ll.length ll.length) bs2 Ab2 := hJ.ob
      have hbl2 : bs2.length = ll.length := hJ.bl
      have hbd2 : wait2.length + 2 * unm bs2 ≤ 4 * ll.length + 4 := hJ.bd
      dsimp only at hk hkm hmu ⊢
      repeat' (first | refine g_pv rfl rfl ?_ | refine gc_seq ?_ | refine gc_region ?_)
      refine g_at (l := vals) (f := fV) (u := .slice uad row.length ucap) rfl rfl rfl rfl rfl (Int.natCast_nonneg i) (by omega) (hrd.le (old_le0 _ w)) hu rfl rfl rfl rfl (fun _ => ?_)
      repeat' (first | refine g_pv rfl rfl ?_ | refine g_nil ?_ | refine gq_then ?_)
      refine gc_condC rfl (fun hc2 => ?_) (fun hc2 => ?_)
      · have hklt : k < row.length := by have := of_decide_eq_true hc2; omega
        have hkx := hrow _ (List.getElem_mem hklt)
        have hkk : row[k]? = some row[k] := List.getElem?_eq_getElem hklt
        have htk : row.take (k + 1) = row.take k ++ [row[k]] := List.take_succ_eq_append_getElem hklt
        have hmemr : row[k] ∈ row := List.getElem_mem hklt
        generalize row[k] = x at hkx hkk htk hmemr
        have hxn : x.toNat < bs2.length := by omega
        have hbx := getD_some hxn
        repeat' (first | refine g_pv rfl rfl ?_ | refine gq_then ?_ | refine gc_seq ?_ | refine gc_region ?_ | refine gc_block ?_ | refine gc_skip ?_)
        refine g_at (l := vals) (f := fV) (u := .slice uad row.length ucap) rfl rfl rfl rfl rfl (Int.natCast_nonneg i) (by omega) (hrd.le (old_le0 _ w)) hu rfl rfl rfl rfl (fun _ => ?_)
        repeat' (refine g_pv rfl rfl ?_)
        refine g_at (l := row) (f := fI) (u := x) rfl rfl rfl rfl rfl (Int.natCast_nonneg k) (by omega) (hur.le (old_le0 _ w)) hkk rfl rfl rfl rfl (fun _ => ?_)
        repeat' (first | refine g_pv rfl rfl ?_ | refine g_nil ?_ | refine gq_then ?_ | refine gc_seq ?_ | refine gc_region ?_)
        refine g_case (t := 57) rfl (fun hw1 => ?_) (fun hw1 => ?_)
        · have hxw : x ≠ wo := by simpa using hw1
          repeat' (first | refine g_pv rfl rfl ?_ | refine g_yes rfl rfl rfl ?_)
          refine g_ix rfl rfl rfl rfl hkx.1 (by omega) rfl ?_
          repeat' (refine g_yes rfl rfl rfl ?_)
          refine g_ldL 1 (f := fB) (i := x.toNat) rfl rfl rfl hob2 (fun _ => rfl) (by simp) hbx rfl rfl ?_
          repeat' (first | refine g_pv rfl rfl ?_ | refine g_nil ?_ | refine gq_then ?_ | refine g_yes rfl rfl rfl ?_)
          refine gc_condC rfl (fun hm => ?_) (fun hm => ?_)
          · have hm' : bs2.getD x.toNat false = false := by simpa using hm
            have hus := unm_set (bs := bs2) (i := x.toNat) (by rw [hbx, hm'])
            have hmem : ∀ v, mk' (bs2.set x.toNat true) v ↔ v = x.toNat ∨ mk' bs2 v := fun v => mk_set hxn
            repeat' (first | refine g_pv rfl rfl ?_ | refine gc_seq ?_ | refine gc_region ?_)
            refine g_setL 1 (f := fB) (q := true) rfl rfl hob2 (fun _ => rfl) rfl rfl rfl rfl hkx.1 (by omega) rfl rfl rfl rfl rfl (fun _ A3 ho3 => ?_)
            repeat' (first | refine g_pv rfl rfl ?_ | refine g_nil ?_ | refine gq_then ?_ | refine gc_region ?_)
            refine g_app1L 0 (f := fI) (q := x) rfl rfl rfl rfl rfl rfl rfl rfl rfl rfl rfl rfl hown2 (by unfold maxLen; omega) (by show _ * 8 ≤ _; omega) rfl rfl (fun v4 A4 g4 ho4 => ?_)
            repeat' (first | refine g_pv rfl rfl ?_ | refine g_nil ?_ | refine gq_then ?_ | refine gc_region ?_ | refine gq_block ?_)
            refine gq_again (k + 1, ⟨bs2.set x.toNat true, A3, wait2 ++ [x], v4, A4⟩) ⟨hklt, ⟨by simpa using hbl2, ho3, ho4, fun v hv h => ?_, fun k' hk' => ?_, fun k' hk' => ?_, fun v hv h hne => ?_, by simp only [List.length_append, List.length_singleton]; omega⟩, fun k' hk' hne => ?_, by simp only [List.length_append, List.length_singleton] at hmu ⊢; omega⟩ (by simp only; omega) ⟨rfl, rfl, rfl, rfl, rfl, inc_eq (by omega), trivial⟩ (fun w' H => H)
            · rcases (hmem v).1 h with h1 | h1
              · subst h1
                refine Rch.step hri ?_
                rw [Int.toNat_of_nonneg hkx.1, hesw]
                exact List.mem_filter.2 ⟨hmemr, by simpa using hxw⟩
              · exact hJ.sub v hv h1
            · rcases List.mem_append.1 hk' with h1 | h1
              · obtain ⟨v, e, hv, h2⟩ := hJ.wt k' h1
                exact ⟨v, e, hv, (hmem v).2 (.inr h2)⟩
              · simp at h1; subst h1; exact ⟨k'.toNat, by omega, by omega, (hmem _).2 (.inl rfl)⟩
            · exact (hmem _).2 (.inr (hJ.src k' hk'))
            · rcases (hmem v).1 h with h1 | h1
              · refine .inl (List.mem_append_right _ ?_)
                simp; omega
              · rcases hJ.cls v hv h1 hne with h2 | h2
                · exact .inl (List.mem_append_left _ h2)
                · exact .inr (fun k' hk' => (hmem _).2 (.inr (h2 k' hk')))
            · rw [htk] at hk'
              rcases List.mem_append.1 hk' with h1 | h1
              · exact (hmem _).2 (.inr (hkm k' h1 hne))
              · simp at h1; subst h1; exact (hmem _).2 (.inl rfl)
          · have hm' : bs2.getD x.toNat false = true := by simpa using hm
            repeat' (first | refine g_pv rfl rfl ?_ | refine g_nil ?_ | refine gq_then ?_ | refine gc_region ?_ | refine gc_skip ?_ | refine gq_block ?_)
            refine gq_again (k + 1, ⟨bs2, Ab2, wait2, v82, A82⟩) ⟨hklt, hJ, fun k' hk' hne => ?_, hmu⟩ (by simp only; omega) ⟨rfl, rfl, rfl, rfl, rfl, inc_eq (by omega), trivial⟩ (fun w' H => H)
            rw [htk] at hk'
            rcases List.mem_append.1 hk' with h1 | h1
            · exact hkm k' h1 hne
            · simp at h1; subst h1; exact hm'
        · have hxw : x = wo := by simpa using hw1
          repeat' (first | refine g_pv rfl rfl ?_ | refine g_nil ?_ | refine gq_then ?_ | refine gc_region ?_ | refine gc_cond_f rfl ?_ | refine gc_skip ?_ | refine gq_block ?_ | refine g_no rfl rfl rfl rfl rfl ?_)
          refine gq_again (k + 1, ⟨bs2, Ab2, wait2, v82, A82⟩) ⟨hklt, hJ, fun k' hk' hne => ?_, hmu⟩ (by simp only; omega) ⟨rfl, rfl, rfl, rfl, rfl, inc_eq (by omega), trivial⟩ (fun w' H => H)
          rw [htk] at hk'
          rcases List.mem_append.1 hk' with h1 | h1
          · exact hkm k' h1 hne
          · simp at h1; subst h1; exact absurd hxw hne
      · have hkge : k = row.length := by have := of_decide_eq_false hc2; omega
        repeat' (first | refine gc_exit ?_ | refine gq_then_exit ?_ | refine gq_block ?_ | refine gq_block_exit ?_)
        refine gq_again ⟨bs2, Ab2, wait2, v82, A82⟩ ⟨hJ.bl, hJ.ob, hJ.ow, hJ.sub, hJ.wt, hJ.src, fun u hu h _ => ?_, hJ.bd⟩ hmu ⟨rfl, rfl, rfl, rfl, trivial⟩ (fun w' H => H)
        by_cases hui : u = i
        · subst hui
          refine .inr (fun k' hk' => ?_)
          rw [hesw] at hk'
          have h1 := List.mem_filter.1 hk'
          refine hkm k' (by rw [hkge, List.take_length]; exact h1.1) (by simpa using h1.2)
        · exact hJ.cls u hu h hui
    · have h0 : wait = [] := List.eq_nil_of_length_eq_zero (by have := of_decide_eq_false hc; omega)
      subst h0
      repeat' (first | refine g_pv rfl rfl ?_ | refine g_nil ?_ | refine gq_then ?_ | refine gc_seq ?_ | refine gc_region ?_ | refine gc_exit ?_ | refine gc_ret ?_ | refine gq_then_exit ?_ | refine gq_block_exit ?_)
      refine gq_ret1 (.inr rfl) rfl rfl rfl (fun w' H => ⟨⟨g, bs, Ab⟩, ⟨hI.bl, hI.ob, fun u hu => ⟨hI.sub u hu, fun h => ?_⟩⟩, rfl, hp_take 1 rfl (fun H => hp_nil H) H⟩)
      have key : ∀ v, Rch (esw ll wo) [(s : Int)] v → v < ll.length ∧ mk' bs v := by
        intro v hv
        induction hv with
        | @base v h =>
          simp at h; have := hI.src s (by simp)
          have e : v = s := by omega
          subst e; exact ⟨hs, by simpa using this⟩
        | step _ h ih =>
          rcases hI.cls _ ih.1 ih.2 (fun h => h) with h1 | h1
          · cases h1
          · have := h1 _ h
            have h2 := esw_in hin wo _ ih.1 _ h
            exact ⟨by omega, by simpa using this⟩
      exact (key u h).2
end Go.Proofs.Ytpmkkmahimdjkaa

/- The document's Reach. -/
namespace Go.Proofs.Ytpmkkmahimdjkaa
open Go.Wk
set_option linter.unusedVariables false
set_option linter.unusedSimpArgs false
attribute [local irreducible] G GC GQ GA GS Exit.then Exit.inBlock

theorem nexts_getD (code : List Ins) (u : Nat) : (nexts code code.length).getD u [] = nxt code u := by
  unfold nexts
  by_cases hu : u < code.length
  · simp [List.getD, hu]
  · simp [List.getD, nxt, List.getElem?_eq_none (show code.length ≤ u by omega), hu]
theorem esw_nexts (code : List Ins) : esw (nexts code code.length) (-1) = nxt code := by
  funext u
  unfold esw
  rw [nexts_getD, List.filter_eq_self]
  intro k hk
  have := nxt_in code u k hk
  simp; omega
theorem nexts_in (code : List Ins) : ∀ l ∈ nexts code code.length, InR (nexts code code.length).length l := by
  intro l hl
  obtain ⟨u, _, rfl⟩ := List.mem_map.1 hl
  have : (nexts code code.length).length = code.length := by simp [nexts]
  rw [this]; exact nxt_in code u
theorem nexts_lens (code : List Ins) : ∀ l ∈ nexts code code.length, l.length ≤ 1000000 := by
  intro l hl
  obtain ⟨u, _, rfl⟩ := List.mem_map.1 hl
  have := nxt_len code u; omega
theorem nexts_length (code : List Ins) : (nexts code code.length).length = code.length := by simp [nexts]

theorem rreach_sp (f : TF) (w : World) (hf : CodeIn (hw w) f.cA f.code) :
    Sp Try.prog 11 [f.val] w [] (fun y : Value × HL => .tuple #[y.1, .int .i64 (errOf f)]) (fun y => [y.2]) (ListAns f (Rch (nxt f.code) [0])) := by
  refine enter (s := Try.sx) [] Try.func11 rfl rfl rfl (Eff.refl w) ?_
  repeat' (first | refine g_pv rfl rfl ?_ | refine g_ld 0 rfl rfl rfl rfl rfl rfl ?_ | refine g_nil ?_ | refine gq_then ?_ | refine gc_seq ?_ | refine gc_region ?_ | refine g_box rfl rfl (fun _ => ?_))
  refine g_call rfl (Cl.of Try.func24 rfl rfl) rfl rfl (fun w' hE => right_sp f w' (hf.le (fun b o h => old_le hE b o (old_le0 _ w b o h)))) rfl ?_
  rintro ⟨⟩ -
  repeat' (first | refine g_pv rfl rfl ?_ | refine g_nil ?_ | refine gq_then ?_)
  cases hr : f.right with
  | false =>
    repeat' (first | refine g_pv rfl rfl ?_ | refine g_nil ?_ | refine gq_then ?_ | refine gc_seq ?_ | refine gc_region ?_ | refine gc_cond_t rfl ?_ | refine gc_ret ?_ | refine gq_then_ret ?_)
    exact gq_ret2 (.inr rfl) rfl rfl rfl rfl (fun w' H => ⟨(.slice none 0 0, []), ⟨[], OwnL.nil _ _ _, by simp [hr]⟩, by simp [errOf, hr], hp_perm (hp_nil H) (by simp)⟩)
  | true =>
    obtain ⟨hn1, hn2, _, _⟩ := TF.right_n hr
    have hnl := nexts_length f.code
    repeat' (first | refine g_ld 0 rfl rfl rfl rfl rfl rfl ?_ | refine gq_then ?_ | refine gc_seq ?_ | refine gc_region ?_ | refine gc_cond_f rfl ?_ | refine gc_skip ?_)
    refine g_call rfl (Cl.of Try.func32 rfl rfl) rfl rfl (fun w' hE => edges_sp f w' (hf.le (fun b o h => old_le hE b o (old_le0 _ w b o h))) hn2) rfl ?_
    rintro ⟨vn, mn⟩ hmn
    dsimp only at hmn ⊢
    refine g_call rfl (Cl.of Try.func26 rfl rfl) rfl rfl (fun w' hE => flood_sp (nexts f.code f.code.length) vn 0 (-1) w' (hmn.rd (hp_in hE 0 rfl) (hp_in hE 1 rfl)) (nexts_in f.code) (by omega) (by omega) (nexts_lens f.code)) rfl ?_
    rintro ⟨g, bs, A⟩ ⟨hbl, hob, hbs⟩
    dsimp only at hbl hob hbs ⊢
    refine g_eq 9 (u' := .slice (some ⟨g, 0, none⟩) bs.length bs.length) rfl (by rw [hbl]) ?_
    rw [← hbl] at hob
    refine g_call rfl (Cl.of Try.func30 rfl rfl) rfl rfl (fun w' hE => told_sp bs _ _ w' ?_ (by omega)) rfl ?_
    · obtain ⟨ad', cap', he, hrd⟩ := OwnL.rd (f := fB) (fun _ => rfl) hob (H := hw w') (hp_in hE 0 rfl)
      have he' := (Value.slice.inj he).1
      subst he'
      exact hrd
    rintro ⟨v2, A2⟩ ho2
    repeat' (first | refine g_pv rfl rfl ?_ | refine g_nil ?_ | refine gq_then ?_ | refine gc_ret ?_)
    refine gq_ret2 (.inr rfl) rfl rfl rfl rfl (fun w' H => ⟨(v2, A2), ⟨_, ho2, ?_⟩, by simp [errOf, hr], hp_take 0 rfl (fun H => hp_nil H) H⟩)
    rw [if_pos hr]
    refine (toldN_set _ _).congr (fun u => ?_)
    rw [hbl]
    have e1 : srcw 0 (-1) = [0] := rfl
    rw [esw_nexts, e1] at hbs
    constructor
    · rintro ⟨hu, h⟩; exact (hbs u hu).1 h
    · intro h
      have hu := Rch.lt (n := f.code.length) (fun k hk => by simp at hk; omega) (fun u _ => nxt_in f.code u) h
      exact ⟨by omega, (hbs u (by omega)).2 h⟩
end Go.Proofs.Ytpmkkmahimdjkaa

/- Fields of elements of one's own, by their addresses. -/
namespace Go.Wk
set_option linter.unusedVariables false
set_option linter.unusedSimpArgs false

theorem putC_fld {α : Type} {f : α → List Value} {sz : Nat} (hf : ∀ x, (f x).length = sz) {l : List α} {i : Nat} {q q' : α} {off : Nat} {vs rest : List Value} (hl : l[i]? = some q) (hlen : off + vs.length ≤ sz) (hq : f q' = putC (f q) off vs) :
    putC (l.flatMap f ++ rest) (i * sz + off) vs = (l.set i q').flatMap f ++ rest := by
  have hi := (List.getElem?_eq_some_iff.1 hl).1
  rw [← putC_flat hf l i q' rest hi]
  have hL := flat_len hf l
  have hb : i * sz + sz ≤ l.length * sz := by
    have : (i + 1) * sz ≤ l.length * sz := Nat.mul_le_mul_right _ hi
    rw [Nat.add_mul] at this; omega
  apply List.ext_getElem?
  intro k
  rw [putC_get _ _ _ _ (by rw [List.length_append, hL]; omega), putC_get _ _ _ _ (by rw [List.length_append, hL, hf]; omega), hf]
  by_cases h1 : i * sz ≤ k ∧ k < i * sz + sz
  · rw [if_pos h1, hq, putC_get _ _ _ _ (by rw [hf]; omega)]
    by_cases h2 : i * sz + off ≤ k ∧ k < i * sz + off + vs.length
    · rw [if_pos h2, if_pos (by omega)]; congr 1; omega
    · rw [if_neg h2, if_neg (by omega)]
      have hk : k - i * sz < (f q).length := by rw [hf]; omega
      have h3 := flat_get hf l i q hl (k - i * sz) _ (List.getElem?_eq_getElem hk)
      rw [show i * sz + (k - i * sz) = k from by omega] at h3
      rw [List.getElem?_append_left (by rw [hL]; omega), h3, List.getElem?_eq_getElem hk]
  · rw [if_neg h1, if_neg (by omega)]

section
variable {X : Cx} {ops : Array Oper} {Q : Post} {rest : List Oper} {L : LT} {R R0 : RL} {d : Nat} {x y : Operand} {v u : Value} {t ty : TypeId} {p : String} {af : Array Edge} {fuel : Nat} {listed : Array Bool}
theorem g_ldF {α : Type} {f : α → List Value} {sz b o o' j off : Nat} {l : List α} {q : α} {ti : Ti} {cs : List Value} (hx : ev L x = some (.pointer (some ⟨b, o, none⟩))) (ht : tl X.s.tab t = some ti)
    (hr : ∀ w, Hp X w R → Rd (hw w) f sz (some ⟨b, o', none⟩) l) (ho : o = o' + j * sz + off) (hl : l[j]? = some q) (hc : takeC (f q) off ti.sz = some cs) (hv : asV ti.k cs = some v) (hN : Nat.blt d X.N = true) (k : G X ops Q rest ((d, v) :: L) R) :
    G X ops Q (⟨some d, .load t x, ty, p, af, none⟩ :: rest) L R := by
  subst ho
  refine g_ldG hx ht (takeC_spec _ _ _ _ hc).1 hv (fun w hE j' u' hj => ?_) hN k
  obtain ⟨b2, o2, hA2, hc2⟩ := (hr w hE).fld hl hc
  cases hA2
  rw [← cellAt_hw]; exact hc2 j' u' hj
theorem ga_ldF (i : Nat) {g : Option (Nat × Bool)} {α : Type} {f : α → List Value} {sz b o o' j off : Nat} {l : List α} {q : α} {ti : Ti} {cs : List Value} (hQ : NoP Q) (hi : ops[i]? = some ⟨some d, .load t x, ty, p, af, g⟩)
    (hg : ∀ a, Ok X a L → Region.wanted ⟨some d, .load t x, ty, p, af, g⟩ (yielded ops a.tmps) = true) (hx : ev L x = some (.pointer (some ⟨b, o, none⟩))) (ht : tl X.s.tab t = some ti)
    (hr : ∀ w, Still X R0 w → Rd (hw w) f sz (some ⟨b, o', none⟩) l) (ho : o = o' + j * sz + off) (hl : l[j]? = some q) (hc : takeC (f q) off ti.sz = some cs) (hv : asV ti.k cs = some v)
    (hN : Nat.blt d X.N = true) (hns : noDS ops = true) (hf : Region.free .any ops listed i = true) (hrd : (Region.ready .any ops listed).contains i = true)
    (k : GA X ops Q R0 fuel (listed.setIfInBounds i true) ((d, v) :: L) R) : GA X ops Q R0 (fuel + 1) listed L R := by
  subst ho
  refine ga_ldG i hQ hi hg hx ht (takeC_spec _ _ _ _ hc).1 hv (fun w hS j' u' hj => ?_) hN hns hf hrd k
  obtain ⟨b2, o2, hA2, hc2⟩ := (hr w hS).fld hl hc
  cases hA2
  rw [← cellAt_hw]; exact hc2 j' u' hj
theorem g_stF (j : Nat) {α : Type} {e : TypeId} {ti : Ti} {sz : Nat} {A : HL} {f : α → List Value} {l : List α} {q : α} (q' : α) {g o n cap i off : Nat}
    (hR : R[j]? = some A) (hx : ev L x = some (.pointer (some ⟨g, o, none⟩))) (hy : ev L y = some u) (ht : tl X.s.tab t = some ti) (ho : OwnL e sz f (.slice (some ⟨g, 0, none⟩) n cap) l A) (hf : ∀ x, (f x).length = sz)
    (hi : o = i * sz + off) (hl : l[i]? = some q) (hsz : u.cells.size = ti.sz) (hlen : off + ti.sz ≤ sz) (hq : f q' = putC (f q) off u.cells.toList) (h1 : (u.cells.toList.all (·.oneCell')) = true)
    (k : ∀ A', OwnL e sz f (.slice (some ⟨g, 0, none⟩) n cap) (l.set i q') A' → G X ops Q rest L (R.set j A')) :
    G X ops Q (⟨none, .store t x y, ty, p, af, none⟩ :: rest) L R := by
  subst hi
  have hlt := (List.getElem?_eq_some_iff.1 hl).1
  obtain ⟨g', cap', rst, hv, rfl, hc1, hc2, hc3⟩ := Own.pos ho (by omega)
  cases hv
  have hb : i * sz + sz ≤ l.length * sz := by
    have : (i + 1) * sz ≤ l.length * sz := Nat.mul_le_mul_right _ hlt
    rw [Nat.add_mul] at this; omega
  refine g_stW j hR hx hy ht hsz ?_ h1 ?_
  · rw [List.length_append, flat_len hf l]; omega
  · have e1 := putC_fld hf (rest := rst) (off := off) (vs := u.cells.toList) hl (by rw [Array.length_toList, hsz]; exact hlen) hq
    rw [e1]
    refine k _ ⟨by rw [flat_len hf, List.length_set], .inr ⟨g, cap, rst, by rw [List.length_set], rfl, by rw [List.length_set]; exact hc1, hc2, ?_⟩⟩
    rw [List.length_append, flat_len hf, List.length_set, ← flat_len hf l, ← List.length_append]; exact hc3
end
end Go.Wk

/- The order in which a search leaves what it has come to. -/
namespace Go.Proofs.Ytpmkkmahimdjkaa
open Go.Wk
set_option linter.unusedVariables false
set_option linter.unusedSimpArgs false
attribute [local irreducible] G GC GQ GA GS Exit.then Exit.inBlock

abbrev fS (s : Nat × Nat) : List Value := [.int .i64 s.1, .int .i64 s.2]
/-- Left in this order: each behind what it was come to from. -/
structure POrder (es : Nat → List Int) (post : List Int) : Prop where
  nodup : post.Nodup
  mem : ∀ v : Int, v ∈ post ↔ ∃ u : Nat, v = u ∧ Rch es [0] u
  last : ∃ o, post = o ++ [0]
  par : ∀ v ∈ post, v ≠ 0 → ∃ u : Nat, v ∈ es u ∧ ∃ pre suf, post = pre ++ v :: suf ∧ (u : Int) ∈ suf

/-- The search: keys have been come to, out are left, st are open. -/
structure DInv (n : Nat) (es : Nat → List Int) (keys out : List Int) (st : List (Nat × Nat)) : Prop where
  rng : ∀ s ∈ st, s.1 < n ∧ s.2 ≤ (es s.1).length
  key : ∀ v : Int, v ∈ keys ↔ v ∈ out ∨ ∃ s ∈ st, v = (s.1 : Int)
  nd : (out ++ st.map (fun s : Nat × Nat => (s.1 : Int))).Nodup
  tree : ∀ (pre : List Nat) (v : Nat) (suf : List Nat), st.map (·.1) = pre ++ v :: suf → (pre = [] ∧ v = 0) ∨ ∃ u ∈ pre, (v : Int) ∈ es u
  par : ∀ v ∈ out, v ≠ 0 → ∃ u : Nat, v ∈ es u ∧ (u ∈ st.map (·.1) ∨ ∃ pre suf, out = pre ++ v :: suf ∧ (u : Int) ∈ suf)
  fin : ∀ u : Nat, (u : Int) ∈ out → ∀ x ∈ es u, x ∈ keys
  top : ∀ s ∈ st, ∀ x ∈ (es s.1).take s.2, x ∈ keys
  root : (0 : Int) ∈ keys
  rch : ∀ v : Int, v ∈ keys → ∃ u : Nat, v = u ∧ u < n ∧ Rch es [0] u
  last : st = [] → ∃ o, out = o ++ [0]

def stW (es : Nat → List Int) (st : List (Nat × Nat)) : Nat := (st.map fun s => (es s.1).length - s.2 + 1).sum
theorem stW_app (es : Nat → List Int) (a b : List (Nat × Nat)) : stW es (a ++ b) = stW es a + stW es b := by simp [stW]
theorem stW_one (es : Nat → List Int) (s : Nat × Nat) : stW es [s] = (es s.1).length - s.2 + 1 := by simp [stW]

theorem DInv.start (n : Nat) (es : Nat → List Int) (hn : 0 < n) : DInv n es [0] [] [(0, 0)] where
  rng := fun s hs => by simp at hs; subst hs; exact ⟨hn, Nat.zero_le _⟩
  key := fun v => by simp
  nd := by simp
  tree := fun pre v suf h => by
    cases pre with
    | nil => left; simp at h; exact ⟨rfl, h.1.symm⟩
    | cons a pre => simp at h
  par := fun v h => by cases h
  fin := fun u h => by cases h
  top := fun s hs x hx => by simp at hs; subst hs; simp at hx
  root := by simp
  rch := fun v h => by simp at h; subst h; exact ⟨0, rfl, hn, Rch.base (by simp)⟩
  last := fun h => by cases h

/-- The open one has nothing left: it is left. -/
theorem DInv.pop {n : Nat} {es : Nat → List Int} {keys out : List Int} {st : List (Nat × Nat)} {i : Nat} (h : DInv n es keys out (st ++ [(i, (es i).length)])) : DInv n es keys (out ++ [(i : Int)]) st where
  rng := fun s hs => h.rng s (List.mem_append_left _ hs)
  key := fun v => by
    rw [h.key]; simp only [List.mem_append, List.mem_singleton]
    constructor
    · rintro (h1 | ⟨s, h1 | h1, h2⟩)
      · exact .inl (.inl h1)
      · exact .inr ⟨s, h1, h2⟩
      · subst h1; exact .inl (.inr h2)
    · rintro ((h1 | h1) | ⟨s, h1, h2⟩)
      · exact .inl h1
      · exact .inr ⟨_, .inr rfl, h1⟩
      · exact .inr ⟨s, .inl h1, h2⟩
  nd := by
    have := h.nd
    simp only [List.map_append, List.map_cons, List.map_nil] at this
    rw [List.append_assoc]
    refine (List.Perm.nodup_iff (List.Perm.append_left out ?_)).1 this
    exact List.perm_append_comm
  tree := fun pre v suf he => by
    have := h.tree pre v (suf ++ [i]) (by simp [he])
    exact this
  par := fun v hv hne => by
    have old : ∀ v ∈ out, v ≠ 0 → ∃ u : Nat, v ∈ es u ∧ (u ∈ st.map (·.1) ∨ ∃ pre suf, out ++ [(i : Int)] = pre ++ v :: suf ∧ (u : Int) ∈ suf) := fun v hv2 hne2 => by
      obtain ⟨u, hu, h1⟩ := h.par v hv2 hne2
      refine ⟨u, hu, ?_⟩
      rcases h1 with h1 | ⟨pre, suf, h1, h2⟩
      · simp only [List.map_append, List.map_cons, List.map_nil, List.mem_append, List.mem_singleton] at h1
        rcases h1 with h1 | h1
        · exact .inl h1
        · subst h1
          obtain ⟨pre, suf, he⟩ := List.append_of_mem hv2
          exact .inr ⟨pre, suf ++ [(u : Int)], by simp [he], by simp⟩
      · exact .inr ⟨pre, suf ++ [(i : Int)], by simp [h1], List.mem_append_left _ h2⟩
    rcases List.mem_append.1 hv with h1 | h1
    · exact old v h1 hne
    · simp at h1; subst h1
      rcases h.tree (st.map (·.1)) i [] (by simp) with ⟨_, h2⟩ | ⟨u, h2, h3⟩
      · subst h2; exact absurd rfl hne
      · exact ⟨u, h3, .inl h2⟩
  fin := fun u hu x hx => by
    rcases List.mem_append.1 hu with h1 | h1
    · exact h.fin u h1 x hx
    · simp at h1
      have : u = i := by omega
      subst this
      exact h.top (u, (es u).length) (by simp) x (by simpa using hx)
  top := fun s hs => h.top s (List.mem_append_left _ hs)
  root := h.root
  rch := h.rch
  last := fun he => by
    subst he
    rcases h.tree [] i [] (by simp) with ⟨_, h2⟩ | ⟨u, h2, _⟩
    · subst h2; exact ⟨out, rfl⟩
    · cases h2
/-- The next one has been come to before. -/
theorem DInv.skip {n : Nat} {es : Nat → List Int} {keys out : List Int} {st : List (Nat × Nat)} {i k : Nat} (h : DInv n es keys out (st ++ [(i, k)])) (hk : k < (es i).length) (hx : (es i)[k] ∈ keys) : DInv n es keys out (st ++ [(i, k + 1)]) where
  rng := fun s hs => by
    rcases List.mem_append.1 hs with h1 | h1
    · exact h.rng s (List.mem_append_left _ h1)
    · simp at h1; subst h1; exact ⟨(h.rng (i, k) (by simp)).1, hk⟩
  key := fun v => by rw [h.key]; simp
  nd := by have := h.nd; simpa using this
  tree := fun pre v suf he => h.tree pre v suf (by simpa using he)
  par := fun v hv hne => by have := h.par v hv hne; simpa using this
  fin := h.fin
  top := fun s hs x hx' => by
    rcases List.mem_append.1 hs with h1 | h1
    · exact h.top s (List.mem_append_left _ h1) x hx'
    · simp at h1; subst h1
      rw [List.take_succ_eq_append_getElem hk] at hx'
      rcases List.mem_append.1 hx' with h2 | h2
      · exact h.top (i, k) (by simp) x h2
      · simp at h2; subst h2; exact hx
  root := h.root
  rch := h.rch
  last := fun he => by simp at he
/-- The next one is new. -/
theorem DInv.push {n : Nat} {es : Nat → List Int} {keys keys' out : List Int} {st : List (Nat × Nat)} {i k x : Nat} (h : DInv n es keys out (st ++ [(i, k)])) (hk : k < (es i).length) (hx : (es i)[k] = (x : Int)) (hxn : x < n) (hnew : (x : Int) ∉ keys) (hkeys : ∀ v, v ∈ keys' ↔ v = (x : Int) ∨ v ∈ keys) :
    DInv n es keys' out (st ++ [(i, k + 1)] ++ [(x, 0)]) where
  rng := fun s hs => by
    simp only [List.mem_append, List.mem_singleton] at hs
    rcases hs with (h1 | h1) | h1
    · exact h.rng s (List.mem_append_left _ h1)
    · subst h1; exact ⟨(h.rng (i, k) (by simp)).1, hk⟩
    · subst h1; exact ⟨hxn, Nat.zero_le _⟩
  key := fun v => by
    rw [hkeys, h.key]; simp only [List.mem_append, List.mem_singleton]
    constructor
    · rintro (h1 | h1 | ⟨s, h1 | h1, h2⟩)
      · exact .inr ⟨_, .inr rfl, h1⟩
      · exact .inl h1
      · exact .inr ⟨s, .inl (.inl h1), h2⟩
      · subst h1; exact .inr ⟨_, .inl (.inr rfl), h2⟩
    · rintro (h1 | ⟨s, (h1 | h1) | h1, h2⟩)
      · exact .inr (.inl h1)
      · exact .inr (.inr ⟨s, .inl h1, h2⟩)
      · subst h1; exact .inr (.inr ⟨_, .inr rfl, h2⟩)
      · subst h1; exact .inl h2
  nd := by
    have h1 := h.nd
    have h2 : (x : Int) ∉ out ++ (st ++ [(i, k)]).map (fun s : Nat × Nat => (s.1 : Int)) := fun hm => hnew ((h.key _).2 (by
      rcases List.mem_append.1 hm with h3 | h3
      · exact .inl h3
      · obtain ⟨s, h4, h5⟩ := List.mem_map.1 h3; exact .inr ⟨s, h4, h5.symm⟩))
    have e : out ++ (st ++ [(i, k + 1)] ++ [(x, 0)]).map (fun s : Nat × Nat => (s.1 : Int)) = (out ++ (st ++ [(i, k)]).map (fun s : Nat × Nat => (s.1 : Int))) ++ [(x : Int)] := by simp
    rw [e, List.nodup_append]
    exact ⟨h1, by simp, fun a ha b hb hab => by simp at hb; subst hb; subst hab; exact h2 ha⟩
  tree := fun pre v suf he => by
    rcases List.eq_nil_or_concat suf with h1 | ⟨suf', y, h1⟩
    · subst h1
      have he' : (st ++ [(i, k)]).map (·.1) ++ [x] = pre ++ [v] := by simpa using he
      have h2 := List.append_inj' he' rfl
      have h3 : x = v := by simpa using h2.2
      subst h3
      right
      refine ⟨i, by rw [← h2.1]; simp, ?_⟩
      rw [← hx]; exact List.getElem_mem hk
    · subst h1
      have he' : (st ++ [(i, k)]).map (·.1) ++ [x] = (pre ++ v :: suf') ++ [y] := by simpa using he
      have h2 := List.append_inj' he' rfl
      exact h.tree pre v suf' h2.1
  par := fun v hv hne => by
    obtain ⟨u, h1, h2⟩ := h.par v hv hne
    refine ⟨u, h1, ?_⟩
    rcases h2 with h2 | h2
    · left; simp at h2 ⊢; rcases h2 with h2 | h2
      · exact .inl h2
      · exact .inr (.inl h2)
    · exact .inr h2
  fin := fun u hu y hy => (hkeys y).2 (.inr (h.fin u hu y hy))
  top := fun s hs y hy => by
    rw [hkeys]
    simp only [List.mem_append, List.mem_singleton] at hs
    rcases hs with (h1 | h1) | h1
    · exact .inr (h.top s (List.mem_append_left _ h1) y hy)
    · subst h1
      simp only at hy
      rw [List.take_succ_eq_append_getElem hk] at hy
      rcases List.mem_append.1 hy with h2 | h2
      · exact .inr (h.top (i, k) (by simp) y h2)
      · simp at h2; subst h2; exact .inl hx
    · subst h1; simp at hy
  root := (hkeys 0).2 (.inr h.root)
  rch := fun v hv => by
    rcases (hkeys v).1 hv with h1 | h1
    · subst h1
      obtain ⟨u, h2, _, h3⟩ := h.rch (i : Int) ((h.key _).2 (.inr ⟨(i, k), by simp, rfl⟩))
      have : u = i := by omega
      subst this
      exact ⟨x, rfl, hxn, Rch.step h3 (by rw [← hx]; exact List.getElem_mem hk)⟩
    · exact h.rch v h1
  last := fun he => by simp at he
/-- Nothing is open: that is the order. -/
theorem DInv.done {n : Nat} {es : Nat → List Int} {keys out : List Int} (h : DInv n es keys out []) : POrder es out where
  nodup := by have := h.nd; simpa using this
  mem := fun v => by
    constructor
    · intro hv
      obtain ⟨u, h1, _, h2⟩ := h.rch v ((h.key v).2 (.inl hv))
      exact ⟨u, h1, h2⟩
    · rintro ⟨u, rfl, hu⟩
      have cl : ∀ u : Nat, (u : Int) ∈ keys ↔ (u : Int) ∈ out := fun u => by rw [h.key]; simp
      rw [← cl]
      induction hu with
      | @base v hb =>
        have e : (v : Int) = 0 := by simpa using hb
        rw [e]; exact h.root
      | step _ hs ih => exact h.fin _ ((cl _).1 ih) _ hs
  last := h.last rfl
  par := fun v hv hne => by
    obtain ⟨u, h1, h2⟩ := h.par v hv hne
    rcases h2 with h2 | h2
    · cases h2
    · exact ⟨u, h1, h2⟩
end Go.Proofs.Ytpmkkmahimdjkaa
