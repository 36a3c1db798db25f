/-
  told, the document's Reads, rising.
  A function's record; the document's Right.
  The argument, read: what a reading of the function's argument says of memory.
  What the rows ask of a walk: the frame's last word, turned into a row's.
-/
import Derived.Test.YtpmkkmahimdjkaaZ6
import Derived.Test.YtpmkkmahimdjkaaRows
import Derived.ProofKit
import Derived.SizedLaws

/- told, the document's Reads, rising. -/
namespace Go.Proofs.Ytpmkkmahimdjkaa
open Go.Wk
set_option linter.unusedVariables false
set_option linter.unusedSimpArgs false
attribute [local irreducible] G GC GQ GA GS Exit.then Exit.inBlock

abbrev fB (b : Bool) : List Value := [.bool b]
/-- The places before k that are marked. -/
def toldN (bs : List Bool) (k : Nat) : List Int := ((List.range k).filter (fun i => bs.getD i false)).map Int.ofNat
theorem toldN_succ (bs : List Bool) (k : Nat) : toldN bs (k + 1) = toldN bs k ++ if bs.getD k false then [(k : Int)] else [] := by
  unfold toldN
  rw [List.range_succ, List.filter_append, List.map_append]
  congr 1
  by_cases h : bs.getD k false <;> simp only [List.filter_cons, h, List.filter_nil] <;> simp
theorem toldN_len (bs : List Bool) (k : Nat) : (toldN bs k).length ≤ k := by
  unfold toldN; rw [List.length_map]; exact Nat.le_trans (List.length_filter_le _ _) (by simp)

theorem told_sp (bs : List Bool) (ad : Option Addr) (cap : Nat) (w : World) (hr : Rd (hw w) fB 1 ad bs) (hl : bs.length ≤ 8796093022000) :
    Sp Try.prog 30 [.slice ad bs.length cap] w [] (fun y : Value × HL => y.1) (fun y => [y.2]) (fun y => OwnI y.1 (toldN bs bs.length) y.2) := by
  refine enter (s := Try.sx) [] Try.func30 rfl rfl rfl (Eff.refl w) ?_
  repeat' (first | refine g_pv rfl rfl ?_ | refine g_nil ?_ | refine gq_then ?_ | refine gc_seq ?_ | refine gc_region ?_ | refine gc_block ?_)
  refine gc_loop (Y := Nat × Value × HL) (fun y => y.1 ≤ bs.length ∧ OwnI y.2.1 (toldN bs y.1) y.2.2)
    (fun y => [(0, .slice ad bs.length cap), (3, y.2.1), (4, .int .i64 y.1)]) (fun y => [y.2.2])
    (fun y => bs.length - y.1) (0, .slice none 0 0, []) ⟨Nat.zero_le _, OwnL.nil _ _ _⟩ ⟨rfl, rfl, rfl, trivial⟩ (fun w' H => hp_perm H (by simp)) ?_
  rintro ⟨k, v3, A3⟩ ⟨hk, ho3⟩
  dsimp only at hk ho3 ⊢
  have hkl := toldN_len bs k
  repeat' (first | refine g_pv rfl rfl ?_ | refine g_nil ?_ | refine gq_then ?_ | refine gc_seq ?_ | refine gc_region ?_)
  refine gc_condC rfl (fun hc => ?_) (fun hc => ?_)
  · have hlt : k < bs.length := by have := of_decide_eq_true hc; omega
    have hgd : bs.getD k false = bs[k] := by simp [List.getD, List.getElem?_eq_getElem hlt]
    repeat' (first | refine g_pv rfl rfl ?_ | refine gq_then ?_ | refine gc_seq ?_ | refine gc_region ?_ | refine gc_block ?_ | refine gc_skip ?_)
    refine g_at (l := bs) (f := fB) (u := bs[k]) rfl rfl rfl rfl rfl (Int.natCast_nonneg k) (by omega) (hr.le (old_le0 _ w)) (List.getElem?_eq_getElem hlt) rfl rfl rfl rfl (fun _ => ?_)
    repeat' (first | refine g_nil ?_ | refine gq_then ?_)
    refine gc_condC rfl (fun hq => ?_) (fun hq => ?_)
    · repeat' (first | refine g_pv rfl rfl ?_ | refine gc_region ?_)
      refine g_app1L 0 (f := fI) (q := (k : Int)) rfl rfl rfl rfl rfl rfl rfl rfl rfl rfl rfl rfl ho3 (by unfold maxLen; omega) (by show _ * 8 ≤ _; omega) rfl rfl (fun v4 A4 g4 ho4 => ?_)
      repeat' (first | refine g_pv rfl rfl ?_ | refine g_nil ?_ | refine gq_then ?_ | refine gc_region ?_ | refine gq_block ?_)
      refine gq_again (k + 1, v4, A4) ⟨hlt, ?_⟩ (by simp only; omega) ⟨rfl, rfl, inc_eq (by omega), trivial⟩ (fun w' H => H)
      rw [toldN_succ, hgd, if_pos hq]; exact ho4
    · repeat' (first | refine g_pv rfl rfl ?_ | refine g_nil ?_ | refine gq_then ?_ | refine gc_region ?_ | refine gc_skip ?_ | refine gq_block ?_)
      refine gq_again (k + 1, v3, A3) ⟨hlt, ?_⟩ (by simp only; omega) ⟨rfl, rfl, inc_eq (by omega), trivial⟩ (fun w' H => H)
      rw [toldN_succ, hgd, if_neg (by simp [hq]), List.append_nil]; exact ho3
  · have hge : k = bs.length := by have := of_decide_eq_false hc; omega
    repeat' (first | refine g_pv rfl rfl ?_ | refine g_nil ?_ | refine gq_then ?_ | refine gc_seq ?_ | refine gc_region ?_ | refine gc_exit ?_ | refine gc_ret ?_ | refine gq_then_exit ?_ | refine gq_block_exit ?_)
    exact gq_ret1 (.inr rfl) rfl rfl rfl (fun w' H => ⟨(v3, A3), hge ▸ ho3, rfl, hp_take 0 rfl (fun H => hp_nil H) H⟩)

theorem rreads_sp (x : Ins) (w : World) (hx : InsIn (hw w) x) : Sp Try.prog 37 [x.val] w [] (fun y : Value × HL => y.1) (fun y => [y.2]) (fun y => OwnI y.1 x.reads y.2) := by
  refine enter (s := Try.sx) [] Try.func37 rfl rfl rfl (Eff.refl w) ?_
  repeat' (first | refine g_pv rfl rfl ?_ | refine g_ld 0 rfl rfl rfl rfl rfl rfl ?_ | refine g_nil ?_ | refine gq_then ?_ | refine gc_seq ?_ | refine gc_region ?_ | refine g_box rfl rfl (fun _ => ?_))
  refine g_litL rfl rfl rfl rfl rfl rfl rfl rfl rfl rfl (fun g => ?_)
  repeat' (first | refine g_pv rfl rfl ?_ | refine g_ld 1 rfl rfl rfl rfl rfl rfl ?_ | refine g_nil ?_ | refine gq_then ?_ | refine gc_seq ?_ | refine gc_region ?_)
  have hlen := hx.len
  have ho : OwnL 59 2 Arg.cells (.slice (some ⟨g, 0, none⟩) 2 2) [x.a, x.b] [(g, .cells ⟨x.a.cells ++ x.b.cells⟩ 59 (0, 0))] := ⟨rfl, .inr ⟨g, 2, [], rfl, rfl, Nat.le_refl _, by decide, rfl⟩⟩
  refine g_appL 0 (m := x.args) rfl rfl rfl rfl rfl rfl rfl ho (fun _ => rfl) (fun w' hE => hx.args.le (fun b o h => old_le hE b o (old_le0 _ w b o h))) (fun _ => rfl) (by unfold maxLen; simp; omega) (by simp; omega) rfl (fun v' A' ho' => ?_)
  repeat' (first | refine g_pv rfl rfl ?_ | refine g_nil ?_ | refine gq_then ?_ | refine gc_seq ?_ | refine gc_region ?_ | refine gc_block ?_)
  refine gc_loop (Y := Nat × Value × HL) (fun y => y.1 ≤ ([x.a, x.b] ++ x.args).length ∧ OwnI y.2.1 (readsF (([x.a, x.b] ++ x.args).take y.1)) y.2.2)
    (fun y => [(3, v'), (4, y.2.1), (5, .int .i64 y.1)]) (fun y => [y.2.2, A'])
    (fun y => ([x.a, x.b] ++ x.args).length - y.1) (0, .slice none 0 0, []) ⟨Nat.zero_le _, OwnL.nil _ _ _⟩ ⟨rfl, rfl, rfl, trivial⟩ (fun w' H => ?_) ?_
  · exact hp_perm (hp_take 0 rfl (fun H => hp_nil H) H) (by simp)
  rintro ⟨k, v3, A3⟩ ⟨hk, ho3⟩
  generalize hal : [x.a, x.b] ++ x.args = al at *
  have hall : al.length ≤ 8796093022002 := by rw [← hal]; simp; omega
  dsimp only at hk ho3 ⊢
  repeat' (first | refine g_pv rfl rfl ?_ | refine gc_seq ?_ | refine gc_region ?_)
  refine g_lenL rfl ho' rfl rfl ?_
  repeat' (first | refine g_pv rfl rfl ?_ | refine g_nil ?_ | refine gq_then ?_)
  refine gc_condC rfl (fun hc => ?_) (fun hc => ?_)
  · have hlt : k < al.length := by have := of_decide_eq_true hc; omega
    have hak : al[k]? = some al[k] := List.getElem?_eq_getElem hlt
    have haok := hx.ok al[k] (by rw [hal]; exact List.getElem_mem hlt)
    have hle := readsF_le (al.take k)
    have htl : (al.take k).length ≤ k := List.length_take_le _ _
    repeat' (first | refine g_pv rfl rfl ?_ | refine gq_then ?_ | refine gc_seq ?_ | refine gc_region ?_ | refine gc_block ?_ | refine gc_skip ?_)
    refine g_atFL 1 rfl rfl ho' (fun _ => rfl) rfl rfl rfl rfl rfl rfl rfl (Int.natCast_nonneg k) hak rfl rfl rfl rfl rfl (fun _ _ => ?_)
    repeat' (first | refine g_pv rfl rfl ?_ | refine g_nil ?_ | refine gq_then ?_)
    refine gc_condC rfl (fun hq => ?_) (fun hq => ?_)
    · repeat' (first | refine g_pv rfl rfl ?_ | refine gc_region ?_)
      refine g_atFL 1 rfl rfl ho' (fun _ => rfl) rfl rfl rfl rfl rfl rfl rfl (Int.natCast_nonneg k) hak rfl rfl rfl rfl rfl (fun _ _ => ?_)
      repeat' (refine g_pv rfl rfl ?_)
      refine g_eq 33 (u' := .int .i64 al[k].n) rfl (by rw [wrap_in (by have := haok.1; omega) (by have := haok.2; omega)]) ?_
      refine g_app1L 0 (f := fI) (q := al[k].n) rfl rfl rfl rfl rfl rfl rfl rfl rfl rfl rfl rfl ho3 (by unfold maxLen; omega) (by show _ * 8 ≤ _; omega) rfl rfl (fun v4 A4 g4 ho4 => ?_)
      repeat' (first | refine g_pv rfl rfl ?_ | refine g_nil ?_ | refine gq_then ?_ | refine gc_region ?_ | refine gq_block ?_)
      refine gq_again (k + 1, v4, A4) ⟨hlt, ?_⟩ (by simp only; omega) ⟨rfl, rfl, inc_eq (by omega), trivial⟩ (fun w' H => H)
      rw [List.take_succ_eq_append_getElem hlt, readsF_app]
      have : readsF [al[k]] = [al[k].n] := by simp [readsF, (beq_iff_eq.1 hq : al[k].k = 1)]
      rw [this]; exact ho4
    · repeat' (first | refine g_pv rfl rfl ?_ | refine g_nil ?_ | refine gq_then ?_ | refine gc_region ?_ | refine gc_skip ?_ | refine gq_block ?_)
      refine gq_again (k + 1, v3, A3) ⟨hlt, ?_⟩ (by simp only; omega) ⟨rfl, rfl, inc_eq (by omega), trivial⟩ (fun w' H => H)
      rw [List.take_succ_eq_append_getElem hlt, readsF_app]
      have : readsF [al[k]] = [] := by simp [readsF, (beq_eq_false_iff_ne.1 hq : al[k].k ≠ 1)]
      rw [this, List.append_nil]; exact ho3
  · have hge : k = al.length := by have := of_decide_eq_false hc; omega
    repeat' (first | refine g_pv rfl rfl ?_ | refine g_nil ?_ | refine gq_then ?_ | refine gc_seq ?_ | refine gc_region ?_ | refine gc_exit ?_ | refine gc_ret ?_ | refine gq_then_exit ?_ | refine gq_block_exit ?_)
    refine gq_ret1 (.inr rfl) rfl rfl rfl (fun w' H => ⟨(v3, A3), ?_, rfl, hp_take 0 rfl (fun H => hp_nil H) H⟩)
    show OwnI v3 x.reads A3
    rw [hge, List.take_length] at ho3
    unfold Ins.reads; rw [hal]; exact ho3

theorem sorted_perm {l m : List Int} (h : l.Perm m) : sorted l = sorted m := by
  have tr : ∀ a b c : Int, decide (a ≤ b) = true → decide (b ≤ c) = true → decide (a ≤ c) = true := by intro a b c h1 h2; simp at *; omega
  have to : ∀ a b : Int, (decide (a ≤ b) || decide (b ≤ a)) = true := by intro a b; simp; omega
  refine List.Perm.eq_of_pairwise (le := fun a b => decide (a ≤ b) = true) (fun a b _ _ h1 h2 => by simp at h1 h2; omega) (List.pairwise_mergeSort tr to l) (List.pairwise_mergeSort tr to m) ?_
  exact (List.mergeSort_perm l _).trans (h.trans (List.mergeSort_perm m _).symm)

def unI : Value → Int
  | .int _ n => n
  | _ => 0
theorem map_unI (l : List Int) : (l.map (Value.int .i64)).map unI = l := by simp [Function.comp_def, unI]

abbrev KI : Int → Value := Value.int .i64
theorem rising_sp (r : Nat) (es : Array MapEntry) (clock : Nat) (kv : List (Int × Value)) (w : World) (M : MapIs KI kv es clock) (hE : Eff w [(r, .map es clock)] w [(r, .map es clock)]) (hl : kv.length ≤ 8796093022000) :
    Sp Try.prog 29 [.map (some r)] w [(r, .map es clock)] (fun y : Value × HL => y.1) (fun y => [y.2, [(r, .map es clock)]]) (fun y => OwnI y.1 (sorted (kv.map (·.1))) y.2) := by
  refine enterA (s := Try.sx) [[(r, .map es clock)]] (by simp) Try.func29 rfl rfl rfl hE ?_
  have hsz : es.toList.length = kv.length := by have := congrArg List.length M.keys; simpa using this
  have hdl : ∀ done, Gone es done → done.length ≤ kv.length := fun done hg => by
    have h1 : (done.map (·.born)).length ≤ (es.toList.map (·.born)).length := List.Nodup.length_le_of_subset hg.nodup (fun x hx => by
      obtain ⟨e, he, rfl⟩ := List.mem_map.1 hx
      exact List.mem_map.2 ⟨e, hg.sub e he, rfl⟩)
    simp only [List.length_map] at h1; omega
  repeat' (first | refine g_pv rfl rfl ?_ | refine g_nil ?_ | refine gq_then ?_ | refine gc_seq ?_ | refine gc_region ?_)
  refine g_rng 0 rfl rfl rfl rfl (fun it => ?_)
  repeat' (first | refine g_nil ?_ | refine gq_then ?_ | refine gc_block ?_)
  refine gc_loop (Y := List MapEntry × List Int × Value × HL) (fun y => Gone es y.1 ∧ y.1.map (·.key) = y.2.1.map KI ∧ OwnI y.2.2.1 y.2.1 y.2.2.2)
    (fun y => [(3, y.2.2.1), (6, .pointer (some ⟨it, 0, none⟩))]) (fun y => [y.2.2.2, [(it, .mapIter (some r) clock (y.1.map (·.born)).toArray clock)], [(r, .map es clock)]])
    (fun y => kv.length - y.1.length) ([], [], .slice none 0 0, []) ⟨⟨fun _ h => (by cases h), List.nodup_nil⟩, rfl, OwnL.nil _ _ _⟩ ⟨rfl, rfl, trivial⟩ (fun w' H => hp_perm H (by simp)) ?_
  rintro ⟨done, ks, v3, A3⟩ ⟨hg, hks, ho3⟩
  dsimp only at hg hks ho3 ⊢
  have hkl : ks.length = done.length := by have := congrArg List.length hks; simpa using this.symm
  have hdone := hdl done hg
  repeat' (first | refine gc_seq ?_ | refine gc_region ?_)
  refine g_next 1 2 rfl rfl rfl M hg rfl (fun hp => ?_) (fun e he hg' => ?_)
  · repeat' (first | refine g_pv rfl rfl ?_ | refine g_nil ?_ | refine gq_then ?_ | refine gc_seq ?_ | refine gc_region ?_ | refine gc_cond_f rfl ?_ | refine gc_exit ?_ | refine gq_then_exit ?_ | refine gq_block_exit ?_)
    have hperm : ks.Perm (kv.map (·.1)) := by
      have h1 : (done.map (·.key)).Perm (es.toList.map (·.key)) := hp.map _
      rw [hks, M.keys] at h1
      have := h1.map unI
      rwa [map_unI, map_unI] at this
    refine g_callA rfl rfl (Cl.of Try.func46 rfl rfl) rfl rfl (fun w' hE => sort_sp w' ho3 (hp_eff hE) (by omega)) rfl ?_
    intro A4 ho4
    repeat' (first | refine g_pv rfl rfl ?_ | refine g_nil ?_ | refine gq_then ?_ | refine gc_seq ?_ | refine gc_region ?_ | refine gc_ret ?_)
    rw [sorted_perm hperm] at ho4
    exact gq_ret1 (.inr rfl) rfl rfl rfl (fun w' H => ⟨(v3, A4), ho4, rfl, hp_take 0 rfl (fun H => hp_take 1 rfl (fun H => hp_nil H) H) H⟩)
  · have hdone' := hdl _ hg'
    have hel : (done ++ [e]).length = done.length + 1 := by simp
    obtain ⟨k, hk⟩ : ∃ k, e.key = KI k := by
      have : e.key ∈ es.toList.map (·.key) := List.mem_map.2 ⟨e, he, rfl⟩
      rw [M.keys] at this
      obtain ⟨k, _, hk⟩ := List.mem_map.1 this
      exact ⟨k, hk.symm⟩
    rw [hel] at hdone'
    repeat' (first | refine g_pv rfl rfl ?_ | refine g_nil ?_ | refine gq_then ?_ | refine gc_seq ?_ | refine gc_region ?_ | refine gc_block ?_ | refine gc_cond_t rfl ?_ | refine gc_skip ?_)
    refine g_entry 1 2 rfl rfl rfl M he rfl ?_
    rw [hk]
    repeat' (first | refine g_pv rfl rfl ?_ | refine g_nil ?_ | refine gq_then ?_ | refine gc_region ?_)
    refine g_app1L 0 (f := fI) (q := k) rfl rfl rfl rfl rfl rfl rfl rfl rfl rfl rfl rfl ho3 (by unfold maxLen; omega) (by show _ * 8 ≤ _; omega) rfl rfl (fun v4 A4 g4 ho4 => ?_)
    repeat' (first | refine g_pv rfl rfl ?_ | refine g_nil ?_ | refine gq_block ?_)
    refine gq_again (done ++ [e], ks ++ [k], v4, A4) ⟨hg', ?_, ho4⟩ (by simp only; omega) ⟨rfl, rfl, trivial⟩ (fun w' H => H)
    simp only [List.map_append, hks, List.map_cons, List.map_nil, hk]
end Go.Proofs.Ytpmkkmahimdjkaa

/- A function's record; the document's Right. -/
namespace Go.Proofs.Ytpmkkmahimdjkaa
open Go.Wk
set_option linter.unusedVariables false
set_option linter.unusedSimpArgs false
attribute [local irreducible] G GC GQ GA GS Exit.then Exit.inBlock

structure TF where
  name : ByteArray
  params : Int
  temps : Int
  gives : Bool
  sA : Option Addr
  sN : Nat
  sC : Nat
  cA : Option Addr
  cC : Nat
  code : List Ins
def TF.cells (f : TF) : List Value := [.string f.name, .int .i64 f.params, .int .i64 f.temps, .bool f.gives, .slice f.sA f.sN f.sC, .slice f.cA f.code.length f.cC]
def TF.val (f : TF) : Value := .agg f.cells.toArray

def jumpBad (n : Int) (x : Ins) : Bool := (x.op == 10 || x.op == 11) && (decide (x.n < 0) || decide (x.n ≥ n))
def insOk (n temps : Int) (x : Ins) : Bool := !jumpBad n x && x.reads.all (fun t => decide (t < temps)) && decide (x.writes < temps)
def TF.headOk (f : TF) : Bool := decide (1 ≤ f.code.length) && decide (f.code.length ≤ 16384) && decide (0 ≤ f.temps) && decide (f.temps ≤ 4096)
def TF.right (f : TF) : Bool := f.headOk && f.code.all (insOk f.code.length f.temps)

theorem reads_ok {H : Nat → Option Obj} {x : Ins} (hx : InsIn H x) : ∀ t ∈ x.reads, 0 ≤ t ∧ t ≤ 4294967295 := by
  intro t ht
  unfold Ins.reads readsF at ht
  obtain ⟨a, ha, h⟩ := List.mem_filterMap.1 ht
  split at h
  · cases h; exact hx.ok a ha
  · cases h
theorem reads_len {H : Nat → Option Obj} {x : Ins} (hx : InsIn H x) : x.reads.length ≤ 8796093022002 := by
  have h1 := readsF_le ([x.a, x.b] ++ x.args)
  have h2 := hx.len
  unfold Ins.reads; simp at h1 ⊢; omega

set_option maxHeartbeats 8000000 in
theorem right_sp (f : TF) (w : World) (hf : CodeIn (hw w) f.cA f.code) : Sp Try.prog 24 [f.val] w [] (fun _ : Unit => .bool f.right) (fun _ => []) (fun _ => True) := by
  refine enter (s := Try.sx) [] Try.func24 rfl rfl rfl (Eff.refl w) ?_
  have hlen := hf.len
  refine gc_seq ?_
  repeat' (first | refine g_pv rfl rfl ?_ | refine g_nil ?_ | refine gq_then ?_ | refine gc_region ?_ | refine g_box rfl rfl (fun _ => ?_))
  rename_i b1
  refine gc_seq ?_
  repeat' (first | refine g_pv rfl rfl ?_ | refine g_ld 0 rfl rfl rfl rfl rfl rfl ?_ | refine g_nil ?_ | refine gq_then ?_ | refine gc_region ?_)
  refine gc_cut (Y := Unit) (fun _ => f.headOk = true) (fun _ => [(1, .pointer (some ⟨b1, 0, none⟩)), (3, .int .i64 f.code.length)]) (fun _ => [[(b1, .cells ⟨f.cells⟩ 25 (0, 0))]]) ?_ ?_
  · refine gc_seq ?_
    repeat' (first | refine g_pv rfl rfl ?_ | refine gc_region ?_)
    refine g_case (t := 13) rfl (fun h1 => ?_) (fun h1 => ?_)
    · repeat' (first | refine g_pv rfl rfl ?_ | refine g_nil ?_ | refine gq_then ?_ | refine gc_seq ?_ | refine gc_region ?_ | refine gc_cond_t rfl ?_ | refine gc_ret ?_ | refine gq_then_ret ?_ | refine g_no rfl rfl rfl rfl rfl ?_)
      refine gq_ret1 (.inr rfl) rfl rfl rfl (fun w' H => ⟨(), trivial, ?_, hp_nil H⟩)
      have h1' : (f.code.length : Int) < 1 := of_decide_eq_true h1
      simp [TF.right, TF.headOk]; omega
    have h1' : ¬ (f.code.length : Int) < 1 := of_decide_eq_false h1
    repeat' (first | refine g_pv rfl rfl ?_ | refine g_yes rfl rfl rfl ?_)
    refine g_case (t := 17) rfl (fun h2 => ?_) (fun h2 => ?_)
    · repeat' (first | refine g_pv rfl rfl ?_ | refine g_nil ?_ | refine gq_then ?_ | refine gc_seq ?_ | refine gc_region ?_ | refine gc_cond_t rfl ?_ | refine gc_ret ?_ | refine gq_then_ret ?_ | refine g_no rfl rfl rfl rfl rfl ?_)
      refine gq_ret1 (.inr rfl) rfl rfl rfl (fun w' H => ⟨(), trivial, ?_, hp_nil H⟩)
      have h2' : (f.code.length : Int) > 16384 := of_decide_eq_true h2
      simp [TF.right, TF.headOk]; omega
    have h2' : ¬ (f.code.length : Int) > 16384 := of_decide_eq_false h2
    repeat' (first | refine g_pv rfl rfl ?_ | refine g_ld 0 rfl rfl rfl rfl rfl rfl ?_ | refine g_yes rfl rfl rfl ?_)
    refine g_case (t := 22) rfl (fun h3 => ?_) (fun h3 => ?_)
    · repeat' (first | refine g_pv rfl rfl ?_ | refine g_nil ?_ | refine gq_then ?_ | refine gc_seq ?_ | refine gc_region ?_ | refine gc_cond_t rfl ?_ | refine gc_ret ?_ | refine gq_then_ret ?_ | refine g_no rfl rfl rfl rfl rfl ?_)
      refine gq_ret1 (.inr rfl) rfl rfl rfl (fun w' H => ⟨(), trivial, ?_, hp_nil H⟩)
      have h3' : f.temps < 0 := of_decide_eq_true h3
      simp [TF.right, TF.headOk]; omega
    have h3' : ¬ f.temps < 0 := of_decide_eq_false h3
    repeat' (first | refine g_pv rfl rfl ?_ | refine g_ld 0 rfl rfl rfl rfl rfl rfl ?_ | refine g_nil ?_ | refine gq_then ?_ | refine g_yes rfl rfl rfl ?_)
    refine gc_condC rfl (fun h4 => ?_) (fun h4 => ?_)
    · repeat' (first | refine g_pv rfl rfl ?_ | refine g_nil ?_ | refine gq_then ?_ | refine gc_seq ?_ | refine gc_region ?_ | refine gc_ret ?_ | refine gq_then_ret ?_)
      refine gq_ret1 (.inr rfl) rfl rfl rfl (fun w' H => ⟨(), trivial, ?_, hp_nil H⟩)
      have h4' : f.temps > 4096 := of_decide_eq_true h4
      simp [TF.right, TF.headOk]; omega
    have h4' : ¬ f.temps > 4096 := of_decide_eq_false h4
    repeat' (refine gc_skip ?_)
    refine gq_at () ?_ ⟨rfl, rfl, trivial⟩ (fun w' H => H)
    simp [TF.headOk]; omega
  rintro ⟨⟩ hhead
  dsimp only
  have hrt : f.right = f.code.all (insOk f.code.length f.temps) := by simp [TF.right, hhead]
  have hh := hhead
  simp only [TF.headOk, Bool.and_eq_true, decide_eq_true_eq] at hh
  obtain ⟨⟨⟨hh1, hh2⟩, hh3⟩, hh4⟩ := hh
  repeat' (first | refine g_pv rfl rfl ?_ | refine g_nil ?_ | refine gq_then ?_ | refine gc_seq ?_ | refine gc_region ?_ | refine gc_block ?_)
  refine gc_loop (Y := Nat) (fun y => y ≤ f.code.length ∧ (f.code.take y).all (insOk f.code.length f.temps) = true)
    (fun y => [(1, .pointer (some ⟨b1, 0, none⟩)), (3, .int .i64 f.code.length), (4, .int .i64 y)]) (fun y => [[(b1, .cells ⟨f.cells⟩ 25 (0, 0))]])
    (fun y => f.code.length - y) 0 ⟨Nat.zero_le _, by simp⟩ ⟨rfl, rfl, rfl, trivial⟩ (fun w' H => H) ?_
  rintro i ⟨hi, hpre⟩
  dsimp only at hi hpre ⊢
  repeat' (first | refine g_pv rfl rfl ?_ | refine g_nil ?_ | refine gq_then ?_ | refine gc_seq ?_ | refine gc_region ?_)
  refine gc_condC rfl (fun hc => ?_) (fun hc => ?_)
  · have hlt : i < f.code.length := by have := of_decide_eq_true hc; omega
    have hx := ins_at hf hlt
    have hbad : ∀ {w' : World}, insOk f.code.length f.temps f.code[i] = false → Ending.returned (Value.bool false) = Ending.returned (Value.bool f.right) := fun h => by
      rw [hrt]
      have : f.code.all (insOk f.code.length f.temps) = false := by
        rw [List.all_eq_false]; exact ⟨f.code[i], List.getElem_mem hlt, by simp [h]⟩
      rw [this]
    repeat' (first | refine gq_then ?_ | refine gc_skip ?_)
    refine gc_seq ?_
    repeat' (refine gc_block ?_)
    refine gc_seq ?_
    repeat' (first | refine g_pv rfl rfl ?_ | refine g_ld 0 rfl rfl rfl rfl rfl rfl ?_ | refine gc_region ?_)
    refine g_at (l := f.code) (f := Ins.cells) (u := f.code[i]) rfl rfl rfl rfl rfl (Int.natCast_nonneg i) (by omega) (hf.row.le (old_le0 _ w)) (List.getElem?_eq_getElem hlt) rfl rfl rfl rfl (fun _ => ?_)
    generalize hxe : f.code[i] = x at hx hbad ⊢
    repeat' (first | refine g_nil ?_ | refine gq_then ?_ | refine g_alloc rfl rfl (fun _ => ?_) | refine g_st 0 rfl rfl rfl rfl rfl rfl rfl ?_)
    rename_i b5
    refine gc_cut (Y := Unit) (fun _ => jumpBad f.code.length x = false) (fun _ => [(1, .pointer (some ⟨b1, 0, none⟩)), (3, .int .i64 f.code.length), (4, .int .i64 i), (5, .pointer (some ⟨b5, 0, none⟩))]) (fun _ => [[(b5, .cells ⟨x.cells⟩ 62 (0, 0))], [(b1, .cells ⟨f.cells⟩ 25 (0, 0))]]) ?_ ?_
    · refine gc_cut (Y := Unit) (fun _ => True) (fun _ => [(55, .bool (jumpBad f.code.length x)), (1, .pointer (some ⟨b1, 0, none⟩)), (3, .int .i64 f.code.length), (4, .int .i64 i), (5, .pointer (some ⟨b5, 0, none⟩))]) (fun _ => [[(b5, .cells ⟨x.cells⟩ 62 (0, 0))], [(b1, .cells ⟨f.cells⟩ 25 (0, 0))]]) ?_ ?_
      · repeat' (first | refine g_pv rfl rfl ?_ | refine g_ld 0 rfl rfl rfl rfl rfl rfl ?_ | refine gc_region ?_)
        have fin : ∀ {v : Value} {b : Bool}, v = .bool b → jumpBad f.code.length x = b → some v = some (Value.bool (jumpBad f.code.length x)) := fun h1 h2 => by rw [h1, h2]
        refine g_case (t := 40) rfl (fun h1 => ?_) (fun h1 => ?_)
        · repeat' (first | refine g_pv rfl rfl ?_ | refine g_ld 0 rfl rfl rfl rfl rfl rfl ?_ | refine g_yes rfl rfl rfl ?_ | refine g_no rfl rfl rfl rfl rfl ?_)
          refine g_case (t := 49) rfl (fun h3 => ?_) (fun h3 => ?_)
          · repeat' (first | refine g_pv rfl rfl ?_ | refine g_nil ?_ | refine g_yes rfl rfl rfl ?_ | refine g_no rfl rfl rfl rfl rfl ?_)
            exact gq_at () trivial ⟨fin rfl (by simp only [jumpBad, h1, h3]; simp), rfl, rfl, rfl, rfl, trivial⟩ (fun w' H => H)
          · repeat' (first | refine g_pv rfl rfl ?_ | refine g_ld 0 rfl rfl rfl rfl rfl rfl ?_ | refine g_nil ?_ | refine g_yes rfl rfl rfl ?_)
            exact gq_at () trivial ⟨fin rfl (by simp only [jumpBad, h1, h3]; simp), rfl, rfl, rfl, rfl, trivial⟩ (fun w' H => H)
        · repeat' (first | refine g_pv rfl rfl ?_ | refine g_ld 0 rfl rfl rfl rfl rfl rfl ?_ | refine g_yes rfl rfl rfl ?_)
          refine g_case (t := 45) rfl (fun h2 => ?_) (fun h2 => ?_)
          · repeat' (first | refine g_pv rfl rfl ?_ | refine g_ld 0 rfl rfl rfl rfl rfl rfl ?_ | refine g_yes rfl rfl rfl ?_)
            refine g_case (t := 49) rfl (fun h3 => ?_) (fun h3 => ?_)
            · repeat' (first | refine g_pv rfl rfl ?_ | refine g_nil ?_ | refine g_yes rfl rfl rfl ?_ | refine g_no rfl rfl rfl rfl rfl ?_)
              exact gq_at () trivial ⟨fin rfl (by simp only [jumpBad, h1, h2, h3]; simp), rfl, rfl, rfl, rfl, trivial⟩ (fun w' H => H)
            · repeat' (first | refine g_pv rfl rfl ?_ | refine g_ld 0 rfl rfl rfl rfl rfl rfl ?_ | refine g_nil ?_ | refine g_yes rfl rfl rfl ?_)
              exact gq_at () trivial ⟨fin rfl (by simp only [jumpBad, h1, h2, h3]; simp), rfl, rfl, rfl, rfl, trivial⟩ (fun w' H => H)
          · repeat' (first | refine g_pv rfl rfl ?_ | refine g_nil ?_ | refine g_no rfl rfl rfl rfl rfl ?_)
            exact gq_at () trivial ⟨fin rfl (by simp only [jumpBad, h1, h2]; simp), rfl, rfl, rfl, rfl, trivial⟩ (fun w' H => H)
      rintro ⟨⟩ -
      dsimp only
      refine gc_condC rfl (fun hq => ?_) (fun hq => ?_)
      · repeat' (first | refine g_pv rfl rfl ?_ | refine g_nil ?_ | refine gq_then ?_ | refine gc_seq ?_ | refine gc_region ?_ | refine gc_ret ?_ | refine gq_then_ret ?_ | refine gq_block_ret ?_)
        exact gq_ret1 (.inr rfl) rfl rfl rfl (fun w' H => ⟨(), trivial, hbad (w' := w') (by simp [insOk, hq]), hp_nil H⟩)
      · repeat' (refine gc_skip ?_)
        exact gq_at () hq ⟨rfl, rfl, rfl, rfl, trivial⟩ (fun w' H => H)
    rintro ⟨⟩ hjb
    dsimp only
    repeat' (first | refine g_ld 0 rfl rfl rfl rfl rfl rfl ?_ | refine gc_seq ?_ | refine gc_region ?_)
    refine g_call rfl (Cl.of Try.func37 rfl rfl) rfl rfl (fun w' hE => rreads_sp x w' (hx.le (fun b o h => old_le hE b o (old_le0 _ w b o h)))) rfl ?_
    rintro ⟨v6, A6⟩ ho6
    have hrok := reads_ok hx
    have hrlen := reads_len hx
    dsimp only at ho6 ⊢
    repeat' (first | refine g_pv rfl rfl ?_ | refine g_nil ?_ | refine gq_then ?_ | refine gc_seq ?_ | refine gc_region ?_ | refine gc_block ?_)
    refine gc_loop (Y := Nat) (fun y => y ≤ x.reads.length ∧ (x.reads.take y).all (fun t => decide (t < f.temps)) = true)
      (fun y => [(1, .pointer (some ⟨b1, 0, none⟩)), (3, .int .i64 f.code.length), (4, .int .i64 i), (5, .pointer (some ⟨b5, 0, none⟩)), (6, v6), (7, .int .i64 y)])
      (fun y => [A6, [(b5, .cells ⟨x.cells⟩ 62 (0, 0))], [(b1, .cells ⟨f.cells⟩ 25 (0, 0))]])
      (fun y => x.reads.length - y) 0 ⟨Nat.zero_le _, by simp⟩ ⟨rfl, rfl, rfl, rfl, rfl, rfl, trivial⟩ (fun w' H => H) ?_
    rintro k ⟨hk, hkpre⟩
    dsimp only at hk hkpre ⊢
    repeat' (first | refine g_pv rfl rfl ?_ | refine gc_seq ?_ | refine gc_region ?_)
    refine g_lenL rfl ho6 rfl rfl ?_
    repeat' (first | refine g_pv rfl rfl ?_ | refine g_nil ?_ | refine gq_then ?_)
    refine gc_condC rfl (fun hc2 => ?_) (fun hc2 => ?_)
    · have hklt : k < x.reads.length := by have := of_decide_eq_true hc2; omega
      have hkr := hrok _ (List.getElem_mem hklt)
      obtain ⟨ad6, cap6, hv6, _⟩ := Own.shape ho6
      subst hv6
      repeat' (first | refine gq_then ?_ | refine gc_seq ?_ | refine gc_block ?_ | refine gc_skip ?_)
      refine gc_draw [A6, [(b5, .cells ⟨x.cells⟩ 62 (0, 0))], [(b1, .cells ⟨f.cells⟩ 25 (0, 0))]] [] rfl (by simp) ?_
      (refine ga_p 0 (by repeat first | exact NoP.sp | apply NoP.then | apply NoP.block) rfl (pv_spec rfl) rfl (by kernel_rfl) (by kernel_rfl) (by kernel_rfl) ?_); (refine ga_p 1 (by repeat first | exact NoP.sp | apply NoP.then | apply NoP.block) rfl (pv_spec rfl) rfl (by kernel_rfl) (by kernel_rfl) (by kernel_rfl) ?_)
      refine ga_at 2 3 (l := x.reads) (f := fI) (u := x.reads[k]) (by repeat first | exact NoP.sp | apply NoP.then | apply NoP.block) rfl wanted_none rfl (fun a _ => wanted_none a) rfl rfl rfl rfl rfl (Int.natCast_nonneg k) (by omega) (still_rd 0 rfl (fun _ => rfl) ho6 rfl) (List.getElem?_eq_getElem hklt) rfl rfl rfl rfl (by kernel_rfl) (by kernel_rfl) (by kernel_rfl) (by kernel_rfl) (by kernel_rfl) (fun _ => ?_)
      (refine ga_p 4 (by repeat first | exact NoP.sp | apply NoP.then | apply NoP.block) rfl (pv_spec rfl) rfl (by kernel_rfl) (by kernel_rfl) (by kernel_rfl) ?_); (refine ga_p 5 (by repeat first | exact NoP.sp | apply NoP.then | apply NoP.block) rfl (pv_spec rfl) rfl (by kernel_rfl) (by kernel_rfl) (by kernel_rfl) ?_)
      refine ga_eq 69 (u' := .bool false) rfl (by congr 1; simp; omega) ?_
      (refine ga_py 6 (by repeat first | exact NoP.sp | apply NoP.then | apply NoP.block) rfl rfl rfl rfl (pv_spec rfl) rfl (by kernel_rfl) (by kernel_rfl) (by kernel_rfl) ?_); (refine ga_py 7 (by repeat first | exact NoP.sp | apply NoP.then | apply NoP.block) rfl rfl rfl rfl (pv_spec rfl) rfl (by kernel_rfl) (by kernel_rfl) (by kernel_rfl) ?_)
      refine ga_at 8 9 (l := x.reads) (f := fI) (u := x.reads[k]) (by repeat first | exact NoP.sp | apply NoP.then | apply NoP.block) rfl (wanted_yes rfl rfl rfl) rfl (fun a _ h => wanted_yes rfl rfl rfl a h) rfl rfl rfl rfl rfl (Int.natCast_nonneg k) (by omega) (still_rd 0 rfl (fun _ => rfl) ho6 rfl) (List.getElem?_eq_getElem hklt) rfl rfl rfl rfl (by kernel_rfl) (by kernel_rfl) (by kernel_rfl) (by kernel_rfl) (by kernel_rfl) (fun _ => ?_)
      (refine ga_py 10 (by repeat first | exact NoP.sp | apply NoP.then | apply NoP.block) rfl rfl rfl rfl (pv_spec rfl) rfl (by kernel_rfl) (by kernel_rfl) (by kernel_rfl) ?_); (refine ga_ld 11 2 (by repeat first | exact NoP.sp | apply NoP.then | apply NoP.block) rfl (wanted_yes rfl rfl rfl) rfl rfl rfl rfl rfl rfl (by kernel_rfl) (by kernel_rfl) (by kernel_rfl) ?_); (refine ga_py 12 (by repeat first | exact NoP.sp | apply NoP.then | apply NoP.block) rfl rfl rfl rfl (pv_spec rfl) rfl (by kernel_rfl) (by kernel_rfl) (by kernel_rfl) ?_); (refine ga_p 13 (by repeat first | exact NoP.sp | apply NoP.then | apply NoP.block) rfl (pv_spec rfl) rfl (by kernel_rfl) (by kernel_rfl) (by kernel_rfl) ?_)
      refine ga_nil (by kernel_rfl) ?_
      repeat' (refine gq_then ?_)
      refine gc_condC rfl (fun hq => ?_) (fun hq => ?_)
      · repeat' (first | refine g_pv rfl rfl ?_ | refine g_nil ?_ | refine gq_then ?_ | refine gc_seq ?_ | refine gc_region ?_ | refine gc_ret ?_ | refine gq_then_ret ?_ | refine gq_block_ret ?_)
        refine gq_ret1 (.inr rfl) rfl rfl rfl (fun w' H => ⟨(), trivial, hbad (w' := w') ?_, hp_nil H⟩)
        have hq' : x.reads[k] ≥ f.temps := of_decide_eq_true hq
        have : x.reads.all (fun t => decide (t < f.temps)) = false := by
          rw [List.all_eq_false]; exact ⟨_, List.getElem_mem hklt, by simp; omega⟩
        simp [insOk, this]
      · repeat' (first | refine g_pv rfl rfl ?_ | refine g_nil ?_ | refine gq_then ?_ | refine gc_region ?_ | refine gc_skip ?_ | refine gq_block ?_)
        refine gq_again (k + 1) ⟨hklt, ?_⟩ (by omega) ⟨rfl, rfl, rfl, rfl, rfl, inc_eq (by omega), trivial⟩ (fun w' H => H)
        have hq' : ¬ x.reads[k] ≥ f.temps := of_decide_eq_false hq
        rw [List.take_succ_eq_append_getElem hklt, List.all_append, hkpre]
        simp; omega
    · have hkge : k = x.reads.length := by have := of_decide_eq_false hc2; omega
      rw [hkge, List.take_length] at hkpre
      repeat' (first | refine gq_then ?_ | refine gc_seq ?_ | refine gc_exit ?_ | refine gq_then_exit ?_ | refine gq_block_exit ?_)
      refine gc_draw [A6, [(b5, .cells ⟨x.cells⟩ 62 (0, 0))], [(b1, .cells ⟨f.cells⟩ 25 (0, 0))]] [] rfl (by simp) ?_
      (refine ga_ld 0 1 (by repeat first | exact NoP.sp | apply NoP.then | apply NoP.block) rfl wanted_none rfl rfl rfl rfl rfl rfl (by kernel_rfl) (by kernel_rfl) (by kernel_rfl) ?_); (refine ga_p 2 (by repeat first | exact NoP.sp | apply NoP.then | apply NoP.block) rfl (pv_spec rfl) rfl (by kernel_rfl) (by kernel_rfl) (by kernel_rfl) ?_); (refine ga_ld 3 2 (by repeat first | exact NoP.sp | apply NoP.then | apply NoP.block) rfl wanted_none rfl rfl rfl rfl rfl rfl (by kernel_rfl) (by kernel_rfl) (by kernel_rfl) ?_)
      refine ga_one (i := 1) (by kernel_rfl) (gs_of rfl (fun K hK => ?_))
      refine g_call rfl (Cl.of Try.func36 rfl rfl) rfl rfl (fun w' hE => rwrites_sp x w') rfl (fun y hy => ?_)
      refine g_nil ?_
      refine hK _ _ ⟨[], by simp⟩ ?_
      (refine ga_p 4 (by repeat first | exact NoP.sp | apply NoP.then | apply NoP.block) rfl (pv_spec rfl) rfl (by kernel_rfl) (by kernel_rfl) (by kernel_rfl) ?_)
      refine ga_nil (by kernel_rfl) ?_
      rw [rwrites_eq]
      repeat' (refine gq_then ?_)
      refine gc_condC rfl (fun hq => ?_) (fun hq => ?_)
      · repeat' (first | refine g_pv rfl rfl ?_ | refine g_nil ?_ | refine gq_then ?_ | refine gc_seq ?_ | refine gc_region ?_ | refine gc_ret ?_ | refine gq_then_ret ?_ | refine gq_block_ret ?_)
        refine gq_ret1 (.inr rfl) rfl rfl rfl (fun w' H => ⟨(), trivial, hbad (w' := w') ?_, hp_nil H⟩)
        have hq' : x.writes ≥ f.temps := of_decide_eq_true hq
        have : decide (x.writes < f.temps) = false := by simp; omega
        simp [insOk, this]
      · repeat' (first | refine g_pv rfl rfl ?_ | refine g_nil ?_ | refine gq_then ?_ | refine gc_region ?_ | refine gc_skip ?_ | refine gq_block ?_)
        refine gq_again (i + 1) ⟨hlt, ?_⟩ (by omega) ⟨rfl, rfl, inc_eq (by omega), trivial⟩ (fun w' H => hp_perm (hp_take 2 rfl (fun H => hp_nil H) H) (by simp))
        have hq' : ¬ x.writes ≥ f.temps := of_decide_eq_false hq
        rw [List.take_succ_eq_append_getElem hlt, List.all_append, hpre, hxe]
        have : decide (x.writes < f.temps) = true := by simp; omega
        simp [insOk, hjb, this]
        simpa using hkpre
  · have hge : i = f.code.length := by have := of_decide_eq_false hc; omega
    repeat' (first | refine g_pv rfl rfl ?_ | refine g_nil ?_ | refine gq_then ?_ | refine gc_seq ?_ | refine gc_region ?_ | refine gc_exit ?_ | refine gc_ret ?_ | refine gq_then_exit ?_ | refine gq_block_exit ?_)
    refine gq_ret1 (.inr rfl) rfl rfl rfl (fun w' H => ⟨(), trivial, ?_, hp_nil H⟩)
    rw [hge, List.take_length] at hpre
    rw [hrt, hpre]
end Go.Proofs.Ytpmkkmahimdjkaa

/- The argument, read: what a reading of the function's argument says of memory. -/
namespace Go.Proofs.Ytpmkkmahimdjkaa
open Go.Wk Go.ChangeShapes Go.WideShapes Go.ChangeAt Go.RowKit
set_option linter.unusedVariables false
set_option linter.unusedSimpArgs false

theorem list_of {α : Type} {p : Nat → α → Prop} : ∀ (n : Nat), (∀ i, i < n → ∃ x, p i x) → ∃ l : List α, l.length = n ∧ ∀ i x, l[i]? = some x → p i x
  | 0, _ => ⟨[], rfl, fun i x h => by simp at h⟩
  | n + 1, h => by
    obtain ⟨l, hl, hp⟩ := list_of n (fun i hi => h i (by omega))
    obtain ⟨x, hx⟩ := h n (by omega)
    refine ⟨l ++ [x], by simp [hl], fun i y hy => ?_⟩
    by_cases hi : i < l.length
    · rw [List.getElem?_append_left hi] at hy; exact hp i y hy
    · rw [List.getElem?_append_right (by omega)] at hy
      have h0 : i - l.length = 0 := by
        cases hk : i - l.length with
        | zero => rfl
        | succ k => rw [hk] at hy; simp at hy
      rw [h0] at hy
      cases hy
      have : i = n := by omega
      subst this; exact hx

theorem weights_all {H : Type} {P : Program} {e : TypeId} {l : List (DataW H)} {d : DataW H} (hd : d ∈ l) {n : Nat} (hn : n ∈ d.weights P e) : n ∈ DataW.weightsAll P e l := by
  induction l with
  | nil => cases hd
  | cons x l ih =>
    simp only [DataW.weightsAll, List.mem_append]
    rcases List.mem_cons.1 hd with rfl | h
    · exact .inl hn
    · exact .inr (ih h)

theorem bulk_one {H : Type} (d : DataW H) : 1 ≤ Rows.uptoBulk d := by
  cases d with
  | lit l => cases l <;> simp [Rows.uptoBulk]
  | nil => simp [Rows.uptoBulk]
  | ptr d => simp [Rows.uptoBulk]
  | slice elems spare => simp [Rows.uptoBulk]
  | agg parts => simp [Rows.uptoBulk]
  | iface t d => simp [Rows.uptoBulk]
  | map entries => simp [Rows.uptoBulk]
  | held h => simp [Rows.uptoBulk]
theorem bulk_part {H : Type} {d : DataW H} {l : List (DataW H)} (h : d ∈ l) : Rows.uptoBulk d ≤ Rows.uptoBulkAll l := by
  induction l with
  | nil => cases h
  | cons x r ih =>
    simp only [Rows.uptoBulkAll]
    rcases List.mem_cons.1 h with rfl | e
    · omega
    · have := ih e; omega
theorem bulk_len {H : Type} (l : List (DataW H)) : l.length ≤ Rows.uptoBulkAll l := by
  induction l with
  | nil => simp [Rows.uptoBulkAll]
  | cons x r ih => have := bulk_one x; simp only [Rows.uptoBulkAll, List.length_cons]; omega

section
variable {H : Type} {enc : TypeId × Value → H} {W : World} {sp : Nat → Bool} {fuel : Nat}

theorem add_at (a : Addr) (i : Nat) : (a.add i).block = a.block ∧ (a.add i).off = a.off + i := by
  unfold Addr.add
  split
  · rename_i h; subst h; exact ⟨rfl, rfl⟩
  · exact ⟨rfl, rfl⟩
theorem cell_at {a : Addr} {j : Nat} {u : Value} (h : W.cell? (a.add j) = some u) : cellAt (hw W) a.block (a.off + j) = some u := by
  have hs := World.cell?_spot h
  obtain ⟨h1, h2⟩ := add_at a j
  rw [cellAt_hw, ← h1, ← h2]
  generalize a.add j = c at hs h
  obtain ⟨b, o, s⟩ := c
  simp only at hs
  subst hs
  exact h
/-- The cells of an element, as memory holds them. -/
theorem cells_at {a : Addr} {n : Nat} {cs : List Value} (h : W.cells? 0 a n = some cs) {j : Nat} {u : Value} (hj : cs[j]? = some u) : cellAt (hw W) a.block (a.off + j) = some u := by
  obtain ⟨-, hl, hc⟩ := World.cells?_some h
  have hjl := (List.getElem?_eq_some_iff.1 hj).1
  have h1 := hc j (by omega)
  rw [hj] at h1
  exact cell_at h1
theorem spot_none {a : Addr} {n sz : Nat} {cs : List Value} (h : W.cells? 0 (a.add (0 * sz)) (n + 1) = some cs) : a = ⟨a.block, a.off, none⟩ := by
  obtain ⟨-, hl, hc⟩ := World.cells?_some h
  have h1 := hc 0 (by omega)
  rw [List.getElem?_eq_getElem (by omega)] at h1
  have hs : a.spot = none := by
    have h2 := World.cell?_spot h1
    simpa [Addr.add] using h2
  obtain ⟨b, o, s⟩ := a
  simp only at hs
  subst hs
  rfl
theorem rd_of {α : Type} {f : α → List Value} {sz : Nat} {a : Addr} {l : List α} (h : ∀ i y, l[i]? = some y → W.cells? 0 (a.add (i * (sz + 1))) (sz + 1) = some (f y)) : Rd (hw W) f (sz + 1) (some a) l := by
  intro i y hy
  have hi := (List.getElem?_eq_some_iff.1 hy).1
  have h0 := spot_none (h 0 _ (List.getElem?_eq_getElem (by omega)))
  refine ⟨a.block, a.off, by rw [h0], fun j u hj => ?_⟩
  have := cells_at (h i y hy) hj
  obtain ⟨h1, h2⟩ := add_at a (i * (sz + 1))
  rw [h1, h2] at this
  exact this

set_option maxRecDepth 100000
theorem arg_read {cs : List Value} {x : DataW H × List MemPlace} (h : DataW.trod enc Try.prog W 0 sp true fuel 59 cs = some x) : ∃ a : Arg, cs = a.cells ∧ a.ok := by
  obtain ⟨xs, n, rfl, rfl, hl, hxl, hf⟩ := DataW.trod_struct Try.underlying59 h
  have e : Try.prog.cellsOf 59 = 2 := by kernel_rfl
  rw [e] at hl
  match xs, hxl, cs, hl with
  | [y0, y1], _, [v0, v1], _ =>
    have c0 : Try.prog.cellsOf 56 = 1 := by kernel_rfl
    have c1 : Try.prog.cellsOf 57 = 1 := by kernel_rfl
    have h0 := hf 0 _ rfl
    have h1 := hf 1 _ rfl
    simp only [c0, c1, List.drop_zero, List.drop_succ_cons, List.take_succ_cons, List.take_zero, List.getElem?_cons_zero, List.getElem?_cons_succ] at h0 h1
    obtain ⟨k, e0, -, w0⟩ := DataW.trod_int Try.underlying56 h0
    obtain ⟨m, e1, -, w1⟩ := DataW.trod_int Try.underlying57 h1
    cases e0; cases e1
    refine ⟨⟨k, m⟩, rfl, ?_⟩
    simpa [Arg.ok, Lit.wf, IntKind.min, IntKind.max, IntKind.signed, IntKind.bits] using w1

theorem args_read {v : Value} {x : DataW H × List MemPlace} (h : DataW.trod enc Try.prog W 0 sp true fuel 60 [v] = some x) (hs : ∀ n ∈ x.1.weights Try.prog 60, n ≤ reachBytes) :
    ∃ (A : Option Addr) (c : Nat) (l : List Arg), v = .slice A l.length c ∧ Rd (hw W) Arg.cells 2 A l ∧ l.length ≤ 8796093022000 ∧ (∀ a ∈ l, a.ok) ∧ l.length ≤ Rows.uptoBulk x.1 := by
  rcases DataW.trod_slice Try.underlying60 h with ⟨e, -⟩ | ⟨a, len, cap, elems, rest, n, rfl, e, rfl, -, hlc, -, hel, hat, -⟩
  · cases e
    exact ⟨none, 0, [], rfl, fun i x hx => by simp at hx, by decide, (fun a ha => by cases ha), Nat.zero_le _⟩
  · cases e
    have c : Try.prog.cellsOf 59 = 2 := by kernel_rfl
    rw [c] at hat
    obtain ⟨l, hl, hp⟩ := list_of (α := Arg) (p := fun i y => (W.cells? 0 (a.add (i * 2)) 2 = some y.cells) ∧ y.ok) len (fun i hi => by
      have h1 := hat i hi
      rw [List.getElem?_eq_getElem (by omega : i < elems.length)] at h1
      obtain ⟨cs, h2, h3⟩ := Option.bind_eq_some_iff.1 h1
      obtain ⟨y, rfl, hy⟩ := arg_read h3
      exact ⟨y, h2, hy⟩)
    refine ⟨some a, cap, l, by rw [hl], rd_of (fun i y hy => (hp i y hy).1), ?_, fun y hy => ?_, ?_⟩
    · have := hs ((elems.length + rest.length) * Try.prog.bytesOf 59) (by simp [DataW.weights, Try.underlying60])
      have b : Try.prog.bytesOf 59 = 16 := by kernel_rfl
      rw [b] at this
      unfold reachBytes at this
      omega
    · obtain ⟨i, hi, rfl⟩ := List.mem_iff_getElem.1 hy
      exact (hp i _ (List.getElem?_eq_getElem hi)).2
    · simp only [Rows.uptoBulk]
      have := bulk_len (elems.map (·.1))
      rw [List.length_map] at this
      omega

theorem in64_wf {n : Int} (h : (Lit.int .i64 n).wf = true) : in64 n := by
  simpa [in64, Lit.wf, IntKind.min, IntKind.max, IntKind.signed, IntKind.bits] using h

theorem ins_read {cs : List Value} {x : DataW H × List MemPlace} (h : DataW.trod enc Try.prog W 0 sp true fuel 62 cs = some x) (hs : ∀ n ∈ x.1.weights Try.prog 62, n ≤ reachBytes) : ∃ i : Ins, cs = i.cells ∧ InsIn (hw W) i ∧ i.args.length ≤ Rows.uptoBulk x.1 := by
  obtain ⟨xs, n, rfl, rfl, hl, hxl, hf⟩ := DataW.trod_struct Try.underlying62 h
  have e : Try.prog.cellsOf 62 = 12 := by kernel_rfl
  rw [e] at hl
  match xs, hxl, cs, hl with
  | [y0, y1, y2, y3, y4, y5, y6, y7, y8, y9], _, [v0, v1, v2, v3, v4, v5, v6, v7, v8, v9, v10, v11], _ =>
    have c0 : Try.prog.cellsOf 54 = 1 := by kernel_rfl
    have c1 : Try.prog.cellsOf 55 = 1 := by kernel_rfl
    have c2 : Try.prog.cellsOf 3 = 1 := by kernel_rfl
    have c3 : Try.prog.cellsOf 59 = 2 := by kernel_rfl
    have c4 : Try.prog.cellsOf 4 = 1 := by kernel_rfl
    have c5 : Try.prog.cellsOf 60 = 1 := by kernel_rfl
    have h0 := hf 0 _ rfl
    have h1 := hf 1 _ rfl
    have h2 := hf 2 _ rfl
    have h3 := hf 3 _ rfl
    have h4 := hf 4 _ rfl
    have h5 := hf 5 _ rfl
    have h6 := hf 6 _ rfl
    have h7 := hf 7 _ rfl
    have h8 := hf 8 _ rfl
    have h9 := hf 9 _ rfl
    simp only [c0, c1, c2, c3, c4, c5, List.drop_zero, List.drop_succ_cons, List.take_succ_cons, List.take_zero, List.getElem?_cons_zero, List.getElem?_cons_succ] at h0 h1 h2 h3 h4 h5 h6 h7 h8 h9
    obtain ⟨op, e0, -, w0⟩ := DataW.trod_int Try.underlying54 h0
    obtain ⟨bin, e1, -, -⟩ := DataW.trod_int Try.underlying55 h1
    obtain ⟨d, e2, -, w2⟩ := DataW.trod_int Try.underlying3 h2
    obtain ⟨a, e3, w3⟩ := arg_read h3
    obtain ⟨b, e4, w4⟩ := arg_read h4
    obtain ⟨nn, e5, -, w5⟩ := DataW.trod_int Try.underlying3 h5
    obtain ⟨off, e6, -, -⟩ := DataW.trod_int Try.underlying3 h6
    obtain ⟨wi, e7, -, -⟩ := DataW.trod_int Try.underlying3 h7
    obtain ⟨si, e8, -⟩ := DataW.trod_bool Try.underlying4 h8
    obtain ⟨aA, aC, args, e9, r1, r2, r3, r4⟩ := args_read h9 (fun n hn => hs n (by
      simp [DataW.weights, Try.underlying62, DataW.weightsEach, hn]))
    cases e0; cases e1; cases e2; cases e3; cases e4; cases e5; cases e6; cases e7; cases e8; subst e9
    refine ⟨⟨op, bin, d, a, b, nn, off, wi, si, args, aA, aC⟩, rfl, ⟨r1, r2, fun z hz => ?_, in64_wf w0, in64_wf w2, in64_wf w5⟩, ?_⟩
    rotate_left
    · refine Nat.le_trans r4 (Nat.le_trans (bulk_part (l := [y0, y1, y2, y3, y4, y5, y6, y7, y8, y9].map (·.1)) (by simp)) ?_)
      simp only [Rows.uptoBulk]; omega
    simp only [List.mem_append, List.mem_cons, List.not_mem_nil, or_false] at hz
    rcases hz with (rfl | rfl) | hz
    · exact w3
    · exact w4
    · exact r3 z hz

theorem code_read {v : Value} {x : DataW H × List MemPlace} (h : DataW.trod enc Try.prog W 0 sp true fuel 23 [v] = some x) (hs : ∀ n ∈ x.1.weights Try.prog 23, n ≤ reachBytes) :
    ∃ (A : Option Addr) (c : Nat) (l : List Ins), v = .slice A l.length c ∧ CodeIn (hw W) A l ∧ ∀ i ∈ l, i.args.length ≤ Rows.uptoBulk x.1 := by
  rcases DataW.trod_slice Try.underlying23 h with ⟨e, -⟩ | ⟨a, len, cap, elems, rest, n, rfl, e, rfl, -, hlc, -, hel, hat, -⟩
  · cases e
    exact ⟨none, 0, [], rfl, ⟨fun i x hx => by simp at hx, by decide, fun a ha => by cases ha⟩, fun i hi => by cases hi⟩
  · cases e
    have c : Try.prog.cellsOf 62 = 12 := by kernel_rfl
    rw [c] at hat
    obtain ⟨l, hl, hp⟩ := list_of (α := Ins) (p := fun i y => (W.cells? 0 (a.add (i * 12)) 12 = some y.cells) ∧ InsIn (hw W) y ∧ y.args.length ≤ Rows.uptoBulkAll (elems.map (·.1))) len (fun i hi => by
      have hie : i < elems.length := by omega
      have h1 := hat i hi
      rw [List.getElem?_eq_getElem hie] at h1
      obtain ⟨cs, h2, h3⟩ := Option.bind_eq_some_iff.1 h1
      obtain ⟨y, rfl, hy, hb⟩ := ins_read h3 (fun n hn => hs n (by
        simp only [DataW.weights, Try.underlying23, List.mem_cons, List.mem_append]
        exact .inr (.inl (weights_all (List.mem_map.2 ⟨_, List.getElem_mem hie, rfl⟩) hn))))
      exact ⟨y, h2, hy, Nat.le_trans hb (bulk_part (List.mem_map.2 ⟨_, List.getElem_mem hie, rfl⟩))⟩)
    refine ⟨some a, cap, l, by rw [hl], ⟨rd_of (fun i y hy => (hp i y hy).1), ?_, fun y hy => ?_⟩, fun y hy => ?_⟩
    · have := hs ((elems.length + rest.length) * Try.prog.bytesOf 62) (by simp [DataW.weights, Try.underlying23])
      have b : Try.prog.bytesOf 62 = 112 := by kernel_rfl
      rw [b] at this
      unfold reachBytes at this
      omega
    · obtain ⟨i, hi, rfl⟩ := List.mem_iff_getElem.1 hy
      exact (hp i _ (List.getElem?_eq_getElem hi)).2.1
    · obtain ⟨i, hi, rfl⟩ := List.mem_iff_getElem.1 hy
      have := (hp i _ (List.getElem?_eq_getElem hi)).2.2
      simp only [Rows.uptoBulk]
      omega
end

set_option maxRecDepth 100000
theorem tf_read {H : Type} {enc : TypeId × Value → H} {W : World} {base : Nat} {v : Value} {d : DataW H} {ps : List MemPlace} (hv : Value.okWide Try.prog W .any base 25 v) (h : DataW.Trod enc Try.prog W 0 (fun _ => true) true 25 v d ps)
    (hs : ∀ n ∈ d.weights Try.prog 25, n ≤ reachBytes) : ∃ f : TF, v = f.val ∧ CodeIn (hw W) f.cA f.code ∧ ∀ i ∈ f.code, i.args.length ≤ Rows.uptoBulk d := by
  obtain ⟨fuel, h⟩ := h
  have hag : ∃ cs, v = .agg cs := by
    unfold Value.okWide at hv
    rw [Try.underlying25] at hv
    obtain ⟨cs, e, -⟩ := hv
    exact ⟨cs, e⟩
  obtain ⟨cs, rfl⟩ := hag
  obtain ⟨xs, n, rfl, e0, hl, hxl, hf⟩ := DataW.trod_struct Try.underlying25 h
  simp only [Prod.mk.injEq] at e0
  obtain ⟨rfl, -⟩ := e0
  have e : Try.prog.cellsOf 25 = 6 := by kernel_rfl
  rw [e] at hl
  obtain ⟨cs⟩ := cs
  simp only [Value.cells] at hl hf
  match xs, hxl, cs, hl with
  | [y0, y1, y2, y3, y4, y5], _, [v0, v1, v2, v3, v4, v5], _ =>
    have c0 : Try.prog.cellsOf 9 = 1 := by kernel_rfl
    have c2 : Try.prog.cellsOf 3 = 1 := by kernel_rfl
    have c4 : Try.prog.cellsOf 4 = 1 := by kernel_rfl
    have c5 : Try.prog.cellsOf 22 = 1 := by kernel_rfl
    have c6 : Try.prog.cellsOf 23 = 1 := by kernel_rfl
    have h0 := hf 0 _ rfl
    have h1 := hf 1 _ rfl
    have h2 := hf 2 _ rfl
    have h3 := hf 3 _ rfl
    have h4 := hf 4 _ rfl
    have h5 := hf 5 _ rfl
    simp only [c0, c2, c4, c5, c6, List.drop_zero, List.drop_succ_cons, List.take_succ_cons, List.take_zero, List.getElem?_cons_zero, List.getElem?_cons_succ] at h0 h1 h2 h3 h4 h5
    obtain ⟨nm, e0, -, -⟩ := DataW.trod_string Try.underlying9 h0
    obtain ⟨pa, e1, -, -⟩ := DataW.trod_int Try.underlying3 h1
    obtain ⟨te, e2, -, -⟩ := DataW.trod_int Try.underlying3 h2
    obtain ⟨gi, e3, -⟩ := DataW.trod_bool Try.underlying4 h3
    obtain ⟨sA, sN, sC, e4⟩ : ∃ sA sN sC, v4 = .slice sA sN sC := by
      rcases DataW.trod_slice Try.underlying22 h4 with ⟨e, -⟩ | ⟨a, len, cap, -, -, -, -, e, -⟩
      · cases e; exact ⟨_, _, _, rfl⟩
      · cases e; exact ⟨_, _, _, rfl⟩
    obtain ⟨cA, cC, code, e5, hc, hb⟩ := code_read h5 (fun n hn => hs n (by simp [DataW.weights, Try.underlying25, DataW.weightsEach, hn]))
    cases e0; cases e1; cases e2; cases e3; subst e4; subst e5
    exact ⟨⟨nm, pa, te, gi, sA, sN, sC, cA, cC, code⟩, rfl, hc, fun i hi => Nat.le_trans (hb i hi) (Nat.le_trans (bulk_part (l := [y0, y1, y2, y3, y4, y5].map (·.1)) (by simp)) (by simp only [Rows.uptoBulk]; omega))⟩
end Go.Proofs.Ytpmkkmahimdjkaa

/- What the rows ask of a walk: the frame's last word, turned into a row's. -/
namespace Go.Proofs.Ytpmkkmahimdjkaa
open Go.Wk Go.ChangeShapes Go.WideShapes Go.ChangeAt Go.RowKit
set_option linter.unusedVariables false
theorem own_knob : ownKnob Try.prog.godebug = none := by kernel_rfl
theorem laid_out : laidOutB Try.prog = true := by kernel_rfl
theorem eff_below {W w' : World} (h : Eff W [] w' []) : Below W.heap.size W w' := ⟨h.os, h.tape, h.output, h.size, fun k hk => h.keep k hk (by simp [ids])⟩
theorem arg_again {H : Type} {enc : TypeId × Value → H} {W W' : World} {v : Value} {d : DataW H} {p : List MemPlace} (h : DataW.Trod enc Try.prog W 0 (fun _ => true) true 25 v d p) (hB : Below W.heap.size W W') (hlt : ∀ x ∈ p, x.block < W.heap.size) :
    DataW.Trod enc Try.prog W' 0 (fun b => decide (b < W.heap.size)) true 25 v d p :=
  Below.trod laid_out (by kernel_rfl) (of_decide_eq_true (by kernel_rfl)) h hB hlt
end Go.Proofs.Ytpmkkmahimdjkaa
