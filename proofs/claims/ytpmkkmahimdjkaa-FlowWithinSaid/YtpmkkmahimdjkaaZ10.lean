/-
  flow.follow: what is come to.
  flow.reached, flow.Reach.
  flow.Reach.
  flow.Starts.
  The document's Starts.
-/
import Derived.Test.YtpmkkmahimdjkaaZ9

/- flow.follow: what is come to. -/
namespace Go.Proofs.Ytpmkkmahimdjkaa
open Go.Wk
set_option linter.unusedVariables false
set_option linter.unusedSimpArgs false
attribute [local irreducible] G GC GQ GA GS Exit.then Exit.inBlock

inductive Rch (es : Nat → List Int) (s : List Int) : Nat → Prop
  | base {v : Nat} : (v : Int) ∈ s → Rch es s v
  | step {u v : Nat} : Rch es s u → (v : Int) ∈ es u → Rch es s v
def InR (n : Nat) (l : List Int) : Prop := ∀ k ∈ l, 0 ≤ k ∧ k < n
theorem Rch.lt {n : Nat} {es : Nat → List Int} {s : List Int} (hs : InR n s) (he : ∀ u, u < n → InR n (es u)) {v : Nat} (h : Rch es s v) : v < n := by
  induction h with
  | base h => have := hs _ h; omega
  | step _ h ih => have := he _ ih _ h; omega

/-- A function that answers where i goes on. -/
def EdgeFn (H : Nat → Option Obj) (k : FuncId) (cp : Array Value) (n : Nat) (es : Nat → List Int) : Prop :=
  Cl Try.prog k ∧ ∀ w (i : Nat), i < n → Hle H (hw w) → Sp Try.prog k (.int .i64 i :: cp.toList) w [] (fun y : Value => y) (fun _ => []) (fun y => RdI H y (es i))

def rem' (n : Nat) (es : Nat → List Int) (keys : List Int) : Nat := ((List.range n).map fun (u : Nat) => if (u : Int) ∈ keys then 0 else (es u).length + 1).sum
theorem rem_same {n : Nat} {es : Nat → List Int} {k1 k2 : List Int} (h : ∀ u : Nat, u < n → ((u : Int) ∈ k1 ↔ (u : Int) ∈ k2)) : rem' n es k1 = rem' n es k2 := by
  unfold rem'
  congr 1
  apply List.map_congr_left
  intro u hu
  simp only [h u (List.mem_range.1 hu)]
theorem rem_add {es : Nat → List Int} {k1 k2 : List Int} {x : Nat} (hx : (x : Int) ∉ k1) (h : ∀ k, k ∈ k2 ↔ k = (x : Int) ∨ k ∈ k1) : ∀ {n : Nat}, x < n → rem' n es k2 + ((es x).length + 1) = rem' n es k1
  | 0, hn => by omega
  | n + 1, hn => by
    unfold rem'
    simp only [List.range_succ, List.map_append, List.map_cons, List.map_nil, List.sum_append, List.sum_cons, List.sum_nil, Nat.add_zero]
    by_cases hxn : x = n
    · subst hxn
      have e1 := rem_same (n := x) (es := es) (k1 := k2) (k2 := k1) (fun u hu => by rw [h]; constructor
                                                                                    · rintro (h1 | h1)
                                                                                      · omega
                                                                                      · exact h1
                                                                                    · exact fun h1 => .inr h1)
      unfold rem' at e1
      rw [e1, if_pos ((h _).2 (.inl rfl)), if_neg hx]; omega
    · have ih := rem_add (es := es) hx h (n := n) (by omega)
      unfold rem' at ih
      have e1 : ((n : Int) ∈ k2 ↔ (n : Int) ∈ k1) := by
        rw [h]; constructor
        · rintro (h1 | h1)
          · omega
          · exact h1
        · exact fun h1 => .inr h1
      simp only [e1]
      omega

theorem own_pop {ad : Option Addr} {cap : Nat} {ws : List Int} {x : Int} {A : HL} (h : OwnI (.slice ad (ws ++ [x]).length cap) (ws ++ [x]) A) : OwnI (.slice ad ws.length cap) ws A := by
  obtain ⟨g, cap', rest, hv, rfl, h3, h4, h5⟩ := Own.pos h (by simp)
  cases hv
  refine ⟨by rw [flat_len (f := fI) (sz := 1) (fun _ => rfl)], .inr ⟨g, cap, (.int .i64 x) :: rest, rfl, by simp, by simp at h3; omega, h4, by simp at h5 ⊢; omega⟩⟩
theorem pop_ex {l : List Int} (h : 0 < l.length) : ∃ ws x, l = ws ++ [x] := ⟨_, _, (List.dropLast_concat_getLast (List.ne_nil_of_length_pos h)).symm⟩

/-- A map of counts. -/
structure FM where
  r : Nat
  es : Array MapEntry
  clock : Nat
  kv : List (Int × Value)
def FM.keys (m : FM) : List Int := m.kv.map (·.1)
def FM.hl (m : FM) : HL := [(m.r, .map m.es m.clock)]
structure FM.Ok (m : FM) : Prop where
  is : MapIs KI m.kv m.es m.clock
  one : ∀ p ∈ m.kv, p.2 = .int .i64 1
theorem FM.look {m : FM} (h : m.Ok) (k : Int) : (ml m.kv k).getD (.int .i64 0) = .int .i64 (if k ∈ m.keys then 1 else 0) := by
  unfold FM.keys
  cases hm : ml m.kv k with
  | none => rw [if_neg (ml_none.1 hm)]; rfl
  | some v =>
    have := ml_mem hm
    rw [if_pos (List.mem_map.2 ⟨_, this, rfl⟩)]; exact h.one _ this
theorem mput_mem {kv : List (Int × Value)} {k : Int} {v : Value} : ∀ p ∈ mput kv k v, p.2 = v ∨ p ∈ kv := by
  induction kv with
  | nil => intro p hp; simp [mput] at hp; left; rw [hp]
  | cons q r ih =>
    obtain ⟨a, u⟩ := q
    intro p hp
    unfold mput at hp
    split at hp
    · rcases List.mem_cons.1 hp with h | h
      · left; rw [h]
      · right; exact List.mem_cons_of_mem _ h
    · rcases List.mem_cons.1 hp with h | h
      · right; rw [h]; exact List.mem_cons_self
      · rcases ih p h with h | h
        · exact .inl h
        · exact .inr (List.mem_cons_of_mem _ h)

theorem clone_sp (s : List Int) (vs : Value) (w : World) (hs : RdI (hw w) vs s) (hl : s.length ≤ 8796093022000) :
    Sp Try.prog 61 [vs] w [] (fun y : Value × HL => y.1) (fun y => [y.2]) (fun y => OwnI y.1 s y.2) := by
  obtain ⟨ad, cap, rfl, hr⟩ := hs
  refine enter (s := Try.sx) [] Try.func61 rfl rfl rfl (Eff.refl w) ?_
  repeat' (first | refine g_pv rfl rfl ?_ | refine g_nil ?_ | refine gq_then ?_ | refine gc_seq ?_ | refine gc_region ?_)
  refine g_eqS rfl rfl rfl rfl ?_
  repeat' (first | refine g_nil ?_ | refine gq_then ?_)
  cases ad with
  | none =>
    have hs0 : s = [] := by
      cases s with
      | nil => rfl
      | cons a s => obtain ⟨b, o, h, _⟩ := hr 0 a rfl; cases h
    subst hs0
    repeat' (first | refine g_pv rfl rfl ?_ | refine g_nil ?_ | refine gq_then ?_ | refine gc_seq ?_ | refine gc_region ?_ | refine gc_cond_t rfl ?_ | refine gc_ret ?_ | refine gq_then_ret ?_)
    exact gq_ret1 (.inr rfl) rfl rfl rfl (fun w' H => ⟨(.slice none 0 0, []), OwnL.nil _ _ _, rfl, hp_perm H (by simp)⟩)
  | some a =>
    repeat' (first | refine gq_then ?_ | refine gc_seq ?_ | refine gc_region ?_ | refine gc_cond_f rfl ?_ | refine gc_skip ?_)
    refine g_lit0 rfl rfl rfl (fun g => ?_)
    repeat' (refine g_pv rfl rfl ?_)
    have ho : OwnI (.slice (some ⟨g, 0, none⟩) 0 0) [] [(g, .cells ⟨[]⟩ 3 (0, 0))] := ⟨rfl, .inr ⟨g, 0, [], rfl, rfl, Nat.le_refl _, by decide, rfl⟩⟩
    refine g_appL 0 (m := s) (f := fI) rfl rfl rfl rfl rfl rfl rfl ho (fun _ => rfl) (fun w' hE => hr.le (fun b o h => old_le hE b o (old_le0 _ w b o h))) (fun _ => rfl) (by unfold maxLen; simp; omega) (by show _ * 8 ≤ _; simp; omega) rfl (fun v' A' ho' => ?_)
    repeat' (first | refine g_pv rfl rfl ?_ | refine g_nil ?_ | refine gq_then ?_ | refine gc_ret ?_)
    exact gq_ret1 (.inr rfl) rfl rfl rfl (fun w' H => ⟨(v', A'), by simpa using ho', rfl, hp_take 0 rfl (fun H => hp_nil H) H⟩)

structure FS where
  m : FM
  wait : List Int
  v6 : Value
  A6 : HL
/-- What holds at the head of follow's loop. -/
structure FInv (n : Nat) (es : Nat → List Int) (s : List Int) (y : FS) : Prop where
  ok : y.m.Ok
  own : OwnI y.v6 y.wait y.A6
  keys : ∀ k ∈ y.m.keys, ∃ u : Nat, k = u ∧ u < n ∧ Rch es s u
  wt : ∀ k ∈ y.wait, ∃ u : Nat, k = u ∧ u < n ∧ Rch es s u
  cls : ∀ u : Nat, (u : Int) ∈ y.m.keys → ∀ k ∈ es u, k ∈ y.m.keys ∨ k ∈ y.wait
  src : ∀ k ∈ s, k ∈ y.m.keys ∨ k ∈ y.wait
  bd : y.wait.length + rem' n es y.m.keys ≤ 4294967296

set_option maxHeartbeats 4000000 in
theorem follow_sp (n : Nat) (es : Nat → List Int) (s : List Int) (vs : Value) (k : FuncId) (cp : Array Value) (w : World) (hs : RdI (hw w) vs s) (hin : InR n s) (hes : ∀ u, u < n → InR n (es u)) (hf : EdgeFn (hw w) k cp n es)
    (hb : s.length + rem' n es [] ≤ 4294967296) :
    Sp Try.prog 47 [vs, .func (.func k) #[] cp] w [] (fun y : FM => .map (some y.r)) (fun y => [y.hl]) (fun y => y.Ok ∧ ∀ v : Int, v ∈ y.keys ↔ ∃ u : Nat, v = u ∧ Rch es s u) := by
  refine enter (s := Try.sx) [] Try.func47 rfl rfl rfl (Eff.refl w) ?_
  repeat' (first | refine g_pv rfl rfl ?_ | refine g_nil ?_ | refine gq_then ?_ | refine gc_seq ?_ | refine gc_region ?_)
  refine g_mkmap rfl (fun r => ?_)
  repeat' (first | refine g_pv rfl rfl ?_ | refine g_nil ?_ | refine gq_then ?_ | refine gc_seq ?_ | refine gc_region ?_)
  refine g_call rfl (Cl.of Try.func61 rfl rfl) rfl rfl (fun w' hE => clone_sp s vs w' (hs.le (fun b o h => old_le hE b o (old_le0 _ w b o h))) (by omega)) rfl ?_
  rintro ⟨v10, A10⟩ ho10
  dsimp only at ho10 ⊢
  repeat' (first | refine g_pv rfl rfl ?_ | refine g_nil ?_ | refine gq_then ?_ | refine gc_block ?_)
  refine gc_loop (Y := FS) (FInv n es s) (fun y => [(1, .func (.func k) #[] cp), (5, .map (some y.m.r)), (6, y.v6)]) (fun y => [y.A6, y.m.hl])
    (fun y => y.wait.length + rem' n es y.m.keys) ⟨⟨r, #[], 0, []⟩, s, v10, A10⟩ ⟨⟨mapIs_nil _ _, fun _ h => (by cases h)⟩, ho10, fun _ h => (by cases h), fun k hk => ?_, fun _ h => (by cases h), fun k hk => .inr hk, hb⟩ ⟨rfl, rfl, rfl, trivial⟩ (fun w' H => H) ?_
  · have := hin k hk
    exact ⟨k.toNat, by omega, by omega, Rch.base (by rw [Int.toNat_of_nonneg this.1]; exact hk)⟩
  rintro ⟨m, wait, v6, A6⟩ hI
  have hown : OwnI v6 wait A6 := hI.own
  have hbd : wait.length + rem' n es m.keys ≤ 4294967296 := hI.bd
  dsimp only
  repeat' (first | refine g_pv rfl rfl ?_ | refine gc_seq ?_ | refine gc_region ?_)
  refine g_lenL rfl hown rfl rfl ?_
  repeat' (first | refine g_pv rfl rfl ?_ | refine g_nil ?_ | refine gq_then ?_)
  refine gc_condC rfl (fun hc => ?_) (fun hc => ?_)
  · have hpos : 0 < wait.length := by have := of_decide_eq_true hc; omega
    obtain ⟨ws, x, rfl⟩ := pop_ex hpos
    obtain ⟨ad, cap, rfl, _⟩ := Own.shape hown
    have hwl : (ws ++ [x]).length = ws.length + 1 := by simp
    have e17 : ∀ t : Nat, some (Value.int IntKind.i64 (IntKind.i64.wrap (((ws ++ [x]).length : Int) - 1))) = some (Value.int .i64 (ws.length : Int)) := fun _ => by
      rw [hwl, IntKind.wrap_i64]; congr 2; omega
    obtain ⟨i, hxi, hin', hri⟩ := hI.wt x (by simp)
    subst hxi
    repeat' (first | refine g_pv rfl rfl ?_ | refine gq_then ?_ | refine gc_seq ?_ | refine gc_region ?_ | refine gc_block ?_ | refine gc_skip ?_)
    refine g_eq 17 rfl (Option.some.inj (e17 0)) ?_
    refine g_atL 0 rfl rfl hown (fun _ => rfl) rfl rfl rfl rfl (Int.natCast_nonneg _) (q := (i : Int)) (by simp) rfl rfl rfl (fun _ => ?_)
    repeat' (first | refine g_pv rfl rfl ?_ | refine g_nil ?_ | refine gq_then ?_ | refine gc_seq ?_ | refine gc_region ?_)
    refine g_eq 23 rfl (Option.some.inj (e17 0)) ?_
    have hcap : (ws ++ [(i : Int)]).length ≤ cap := by
      obtain ⟨g', cap', rst, hv, _, h3, _⟩ := Own.pos hown (by simp)
      cases hv; exact h3
    refine g_hi rfl rfl rfl rfl (by rw [hwl] at hcap; omega) rfl ?_
    have hown' := own_pop hown
    repeat' (first | refine g_pv rfl rfl ?_ | refine g_nil ?_ | refine gq_then ?_ | refine gc_seq ?_ | refine gc_region ?_)
    refine g_look 1 (kf := KI) (k := (i : Int)) rfl rfl rfl rfl rfl (kl_int (Try.sx.ok.at rfl)) hI.ok.is rfl ?_
    rw [show ((ml m.kv (i : Int)).getD (Value.int .i64 0)) = _ from FM.look hI.ok (i : Int)]
    by_cases hk : (i : Int) ∈ m.keys
    · simp only [if_pos hk]
      repeat' (first | refine g_pv rfl rfl ?_ | refine g_nil ?_ | refine gq_then ?_ | refine gc_cond_t rfl ?_ | refine gc_exit ?_ | refine gq_then_exit ?_ | refine gq_block_exit ?_)
      refine gq_again ⟨m, ws, .slice ad ws.length cap, A6⟩ ⟨hI.ok, hown', hI.keys, fun k h => hI.wt k (List.mem_append_left _ h), fun u hu k h => ?_, fun k h => ?_, by simp only; omega⟩ (by simp only; omega) ⟨rfl, rfl, rfl, trivial⟩ (fun w' H => H)
      · rcases hI.cls u hu k h with h1 | h1
        · exact .inl h1
        · rcases List.mem_append.1 h1 with h2 | h2
          · exact .inr h2
          · simp at h2; subst h2; exact .inl hk
      · rcases hI.src k h with h1 | h1
        · exact .inl h1
        · rcases List.mem_append.1 h1 with h2 | h2
          · exact .inr h2
          · simp at h2; subst h2; exact .inl hk
    · simp only [if_neg hk]
      repeat' (first | refine g_pv rfl rfl ?_ | refine g_nil ?_ | refine gq_then ?_ | refine gc_seq ?_ | refine gc_region ?_ | refine gc_cond_f rfl ?_ | refine gc_skip ?_)
      refine g_look 1 (kf := KI) (k := (i : Int)) rfl rfl rfl rfl rfl (kl_int (Try.sx.ok.at rfl)) hI.ok.is rfl ?_
      rw [show ((ml m.kv (i : Int)).getD (Value.int .i64 0)) = _ from FM.look hI.ok (i : Int)]
      simp only [if_neg hk]
      repeat' (refine g_pv rfl rfl ?_)
      refine g_eq 32 (u' := .int .i64 1) rfl rfl ?_
      refine g_upd 1 (kf := KI) (k := (i : Int)) rfl rfl rfl rfl rfl (kl_int (Try.sx.ok.at rfl)) hI.ok.is (fun es' clock' M' => ?_)
      repeat' (first | refine g_pv rfl rfl ?_ | refine g_nil ?_ | refine gq_then ?_ | refine gc_region ?_)
      have hmem : ∀ k', k' ∈ (FM.keys ⟨m.r, es', clock', mput m.kv (i : Int) (.int .i64 1)⟩) ↔ k' = (i : Int) ∨ k' ∈ m.keys := fun k' => mem_keys_mput _ _ _ _
      have hrem := rem_add (es := es) hk hmem hin'
      refine g_call (gs := .int .i64 i :: cp.toList) rfl hf.1 rfl rfl (fun w' hE => hf.2 w' i hin' (fun b o h => old_le hE b o (old_le0 _ w b o h))) rfl ?_
      rintro u ⟨uad, ucap, rfl, hur⟩
      refine g_appL 0 (m := es i) (f := fI) rfl rfl rfl rfl rfl rfl rfl hown' (fun _ => rfl) (fun w' hE => hur.le (fun b o h => old_le hE b o (old_le0 _ w b o h))) (fun _ => rfl) (by unfold maxLen; omega) (by show _ * 8 ≤ _; omega) rfl (fun v' A' ho' => ?_)
      repeat' (first | refine g_pv rfl rfl ?_ | refine g_nil ?_ | refine gq_block ?_)
      refine gq_again ⟨⟨m.r, es', clock', mput m.kv (i : Int) (.int .i64 1)⟩, ws ++ es i, v', A'⟩ ⟨⟨M', fun p hp => ?_⟩, ho', fun k h => ?_, fun k h => ?_, fun u hu k h => ?_, fun k h => ?_, by simp only [List.length_append]; omega⟩ (by simp only [List.length_append]; omega) ⟨rfl, rfl, rfl, trivial⟩ (fun w' H => H)
      · rcases mput_mem p hp with h | h
        · exact h
        · exact hI.ok.one p h
      · rcases (hmem k).1 h with h | h
        · subst h; exact ⟨i, rfl, hin', hri⟩
        · exact hI.keys k h
      · rcases List.mem_append.1 h with h | h
        · exact hI.wt k (List.mem_append_left _ h)
        · have := hes i hin' k h
          exact ⟨k.toNat, by omega, by omega, Rch.step hri (by rw [Int.toNat_of_nonneg this.1]; exact h)⟩
      · rcases (hmem _).1 hu with h1 | h1
        · have : u = i := by omega
          subst this
          exact .inr (List.mem_append_right _ h)
        · rcases hI.cls u h1 k h with h2 | h2
          · exact .inl ((hmem k).2 (.inr h2))
          · rcases List.mem_append.1 h2 with h3 | h3
            · exact .inr (List.mem_append_left _ h3)
            · simp at h3; exact .inl ((hmem k).2 (.inl h3))
      · rcases hI.src k h with h1 | h1
        · exact .inl ((hmem k).2 (.inr h1))
        · rcases List.mem_append.1 h1 with h3 | h3
          · exact .inr (List.mem_append_left _ h3)
          · simp at h3; exact .inl ((hmem k).2 (.inl h3))
  · have h0 : wait = [] := List.eq_nil_of_length_eq_zero (by have := of_decide_eq_false hc; omega)
    subst h0
    repeat' (first | refine g_pv rfl rfl ?_ | refine g_nil ?_ | refine gq_then ?_ | refine gc_seq ?_ | refine gc_region ?_ | refine gc_exit ?_ | refine gc_ret ?_ | refine gq_then_exit ?_ | refine gq_block_exit ?_)
    refine gq_ret1 (.inr rfl) rfl rfl rfl (fun w' H => ⟨m, ⟨hI.ok, fun v => ⟨fun h => ?_, ?_⟩⟩, rfl, hp_take 1 rfl (fun H => hp_nil H) H⟩)
    · obtain ⟨u, h1, _, h2⟩ := hI.keys v h; exact ⟨u, h1, h2⟩
    · rintro ⟨u, rfl, h⟩
      induction h with
      | base h => rcases hI.src _ h with h1 | h1
                  · exact h1
                  · cases h1
      | step _ h ih => rcases hI.cls _ ih _ h with h1 | h1
                       · exact h1
                       · cases h1
end Go.Proofs.Ytpmkkmahimdjkaa

/- flow.reached, flow.Reach. -/
namespace Go.Proofs.Ytpmkkmahimdjkaa
open Go.Wk
set_option linter.unusedVariables false
set_option linter.unusedSimpArgs false
attribute [local irreducible] G GC GQ GA GS Exit.then Exit.inBlock

/-- A graph, as memory H holds it. -/
structure GrIn (H : Nat → Option Obj) (f : TF) (gb : Nat) (nv fv : Value) : Prop where
  cn : cellAt H gb 6 = some nv
  cf : cellAt H gb 7 = some fv
  rn : RdLL H nv (nextsAt f.code f.code.length)
  rf : RdLL H fv (fromsAt f.code f.code.length)
theorem GrIn.le {H1 H2 : Nat → Option Obj} (h : Hle H1 H2) {f : TF} {gb : Nat} {nv fv : Value} (g : GrIn H1 f gb nv fv) : GrIn H2 f gb nv fv := ⟨h.cell g.cn, h.cell g.cf, g.rn.le h, g.rf.le h⟩
theorem GraphA.grin {f : TF} {v : Value} {A : HL} (g : GraphA f v A) : ∃ gb nv fv, v = .pointer (some ⟨gb, 0, none⟩) ∧ ∀ H : Nat → Option Obj, (∀ b o, (b, o) ∈ A → H b = some o) → GrIn H f gb nv fv := by
  obtain ⟨gb, nv, fv, mn, mf, rfl, h1, h2, rfl⟩ := g
  refine ⟨gb, nv, fv, rfl, fun H hA => ?_⟩
  have hg := hA gb _ (by simp only [List.mem_append, List.mem_singleton]; exact .inl (.inl (.inl (.inl rfl))))
  refine ⟨by simp only [cellAt, hg]; rfl, by simp only [cellAt, hg]; rfl, ?_, ?_⟩
  · exact h1.rd (fun b o hb => hA b o (by simp only [List.mem_append]; exact .inl (.inl (.inl (.inr hb))))) (fun b o hb => hA b o (by simp only [List.mem_append]; exact .inl (.inl (.inr hb))))
  · exact h2.rd (fun b o hb => hA b o (by simp only [List.mem_append]; exact .inl (.inr hb))) (fun b o hb => hA b o (by simp only [List.mem_append]; exact .inr hb))

theorem nextsAt_get (code : List Ins) (i : Nat) (h : i < code.length) : (nextsAt code code.length)[i]? = some (nxt code i) := by
  simp [nextsAt, h]
theorem RdLL.get {H : Nat → Option Obj} {v : Value} {ll : List (List Int)} (h : RdLL H v ll) : ∃ (ad : Option Addr) (cap : Nat) (vals : List Value), v = .slice ad ll.length cap ∧ Rd H fV 1 ad vals ∧ vals.length = ll.length ∧ ∀ (i : Nat) (l : List Int), ll[i]? = some l → ∃ u : Value, (vals : List Value)[i]? = some u ∧ RdI H u l := by
  obtain ⟨ad, cap, vals, rfl, h1, h2, h3⟩ := h
  refine ⟨ad, cap, vals, rfl, h2, h1, fun i l hl => ?_⟩
  have hi : i < vals.length := by rw [h1]; exact (List.getElem?_eq_some_iff.1 hl).1
  exact ⟨_, List.getElem?_eq_getElem hi, h3 i _ l (List.getElem?_eq_getElem hi) hl⟩

theorem reached1_sp (f : TF) (gb bx : Nat) (nv fv : Value) (i : Nat) (w : World) (H : Nat → Option Obj) (hH : Hle H (hw w)) (hi : i < f.code.length) (hb : cellAt H bx 0 = some (.pointer (some ⟨gb, 0, none⟩))) (hg : GrIn H f gb nv fv) :
    Sp Try.prog 48 [.int .i64 i, .pointer (some ⟨bx, 0, none⟩)] w [] (fun y : Value => y) (fun _ => []) (fun y => RdI H y (nxt f.code i)) := by
  refine enter (s := Try.sx) [] Try.func48 rfl rfl rfl (Eff.refl w) ?_
  obtain ⟨ad, cap, vals, rfl, hr, hvl, hget⟩ := RdLL.get hg.rn
  obtain ⟨u, hu, hru⟩ := hget i _ (nextsAt_get f.code i hi)
  have hnl : (nextsAt f.code f.code.length).length = f.code.length := nextsAt_length _ _ (Nat.le_refl _)
  repeat' (first | refine g_pv rfl rfl ?_ | refine g_nil ?_ | refine gq_then ?_ | refine gc_seq ?_ | refine gc_region ?_)
  refine g_ldO rfl rfl (cs := [.pointer (some ⟨gb, 0, none⟩)]) rfl rfl (cell1 ((old_le0 _ w).cell (hH.cell hb))) rfl ?_
  repeat' (refine g_pv rfl rfl ?_)
  refine g_ldO rfl rfl (cs := [.slice ad (nextsAt f.code f.code.length).length cap]) rfl rfl (cell1 ((old_le0 _ w).cell (hH.cell hg.cn))) rfl ?_
  repeat' (refine g_pv rfl rfl ?_)
  obtain ⟨uad, ucap, rfl, hur⟩ := hru
  refine g_at (l := vals) (f := fV) (u := .slice uad (nxt f.code i).length ucap) rfl rfl rfl rfl rfl (Int.natCast_nonneg i) (by omega) ((hr.le hH).le (old_le0 _ w)) hu rfl rfl rfl rfl (fun _ => ?_)
  repeat' (first | refine g_pv rfl rfl ?_ | refine g_nil ?_ | refine gq_then ?_ | refine gc_ret ?_)
  exact gq_ret1 (.inr rfl) rfl rfl rfl (fun w' H => ⟨_, ⟨uad, ucap, rfl, hur⟩, rfl, H⟩)

theorem rem_le {n m : Nat} {es : Nat → List Int} (h : ∀ u, u < n → (es u).length ≤ m) (keys : List Int) : rem' n es keys ≤ n * (m + 1) := by
  unfold rem'
  induction n with
  | zero => simp
  | succ n ih =>
    simp only [List.range_succ, List.map_append, List.map_cons, List.map_nil, List.sum_append, List.sum_cons, List.sum_nil, Nat.add_zero]
    have := ih (fun u hu => h u (by omega))
    have h1 := h n (by omega)
    rw [Nat.add_mul]
    split <;> omega

/-- A rising list of just these numbers. -/
def IsSet (l : List Int) (S : Nat → Prop) : Prop := l.Pairwise (· < ·) ∧ ∀ v : Int, v ∈ l ↔ ∃ u : Nat, v = u ∧ S u
theorem IsSet.eq {l m : List Int} {S T : Nat → Prop} (h1 : IsSet l S) (h2 : IsSet m T) (h : ∀ u, S u ↔ T u) : l = m := by
  have hm : ∀ v, v ∈ l ↔ v ∈ m := fun v => by
    rw [h1.2, h2.2]; constructor
    · rintro ⟨u, h3, h4⟩; exact ⟨u, h3, (h u).1 h4⟩
    · rintro ⟨u, h3, h4⟩; exact ⟨u, h3, (h u).2 h4⟩
  have n1 : l.Nodup := h1.1.imp (fun h => Int.ne_of_lt h)
  have n2 : m.Nodup := h2.1.imp (fun h => Int.ne_of_lt h)
  exact List.Perm.eq_of_pairwise (le := (· < ·)) (fun a b _ _ h3 h4 => by omega) h1.1 h2.1 ((List.perm_ext_iff_of_nodup n1 n2).2 hm)
theorem sorted_set {l : List Int} {S : Nat → Prop} (hn : l.Nodup) (h : ∀ v : Int, v ∈ l ↔ ∃ u : Nat, v = u ∧ S u) : IsSet (sorted l) S := by
  have hp := List.mergeSort_perm l (fun x y => decide (x ≤ y))
  refine ⟨?_, fun v => by rw [← h]; exact hp.mem_iff⟩
  have tr : ∀ a b c : Int, decide (a ≤ b) = true → decide (b ≤ c) = true → decide (a ≤ c) = true := by intro a b c h1 h2; simp at *; omega
  have to : ∀ a b : Int, (decide (a ≤ b) || decide (b ≤ a)) = true := by intro a b; simp; omega
  have h1 := List.pairwise_mergeSort tr to l
  have h2 : (sorted l).Nodup := (List.Perm.nodup_iff hp).2 hn
  have h3 : (sorted l).Pairwise (· ≠ ·) := h2
  refine (List.Pairwise.and h1 h3).imp (fun {a b} h => ?_)
  have := of_decide_eq_true h.1
  have := h.2
  omega

theorem reached_sp (f : TF) (gb : Nat) (nv fv : Value) (w : World) (hg : GrIn (hw w) f gb nv fv) (hn : 1 ≤ f.code.length) (hn2 : f.code.length ≤ 16384) :
    Sp Try.prog 31 [.pointer (some ⟨gb, 0, none⟩)] w [] (fun y : FM => .map (some y.r)) (fun y => [y.hl]) (fun y => y.Ok ∧ ∀ v : Int, v ∈ y.keys ↔ ∃ u : Nat, v = u ∧ Rch (nxt f.code) [0] u) := by
  refine enter (s := Try.sx) [] Try.func31 rfl rfl rfl (Eff.refl w) ?_
  repeat' (first | refine g_pv rfl rfl ?_ | refine g_nil ?_ | refine gq_then ?_ | refine gc_seq ?_ | refine gc_region ?_ | refine g_box rfl rfl (fun _ => ?_))
  rename_i b1
  refine g_litL rfl rfl rfl rfl rfl rfl rfl rfl rfl rfl (fun g => ?_)
  repeat' (refine g_pv rfl rfl ?_)
  have hrem := rem_le (n := f.code.length) (m := 2) (es := nxt f.code) (fun u _ => nxt_len f.code u) []
  refine g_call rfl (Cl.of Try.func47 rfl rfl) rfl rfl (fun w' hE => follow_sp f.code.length (nxt f.code) [0] _ 48 _ w' (OwnI.rd (own_lit1 g 0) (fun b o hb => hp_in hE 0 rfl b o hb)) (fun k hk => ?_) (fun u _ => nxt_in f.code u) ⟨Cl.of Try.func48 rfl rfl, fun w2 i hi hh => ?_⟩ (by simp; omega)) rfl ?_
  · simp at hk; omega
  · have hgl : GrIn (hw w') f gb nv fv := hg.le (fun b o h => old_le hE b o (old_le0 _ w b o h))
    have hbx : cellAt (hw w') b1 0 = some (.pointer (some ⟨gb, 0, none⟩)) := by
      have h1 := hp_in hE 1 rfl b1 _ List.mem_cons_self
      simp only [cellAt, h1]; rfl
    exact reached1_sp f gb b1 nv fv i w2 (hw w') hh hi hbx hgl
  · rintro m ⟨hm1, hm2⟩
    repeat' (first | refine g_pv rfl rfl ?_ | refine g_nil ?_ | refine gq_then ?_ | refine gc_ret ?_)
    exact gq_ret1 (.inr rfl) rfl rfl rfl (fun w' H => ⟨m, ⟨hm1, hm2⟩, rfl, hp_take 0 rfl (fun H => hp_nil H) H⟩)
end Go.Proofs.Ytpmkkmahimdjkaa

/- flow.Reach. -/
namespace Go.Proofs.Ytpmkkmahimdjkaa
open Go.Wk
set_option linter.unusedVariables false
set_option linter.unusedSimpArgs false
attribute [local irreducible] G GC GQ GA GS Exit.then Exit.inBlock

def errOf (f : TF) : Int := if f.right then 0 else 160
theorem TF.right_n {f : TF} (h : f.right = true) : 1 ≤ f.code.length ∧ f.code.length ≤ 16384 ∧ 0 ≤ f.temps ∧ f.temps ≤ 4096 := by
  simp only [TF.right, TF.headOk, Bool.and_eq_true, decide_eq_true_eq] at h
  exact ⟨h.1.1.1.1, h.1.1.1.2, h.1.1.2, h.1.2⟩
/-- What a function that answers a list answers. -/
def ListAns (f : TF) (S : Nat → Prop) (y : Value × HL) : Prop := ∃ l, OwnI y.1 l y.2 ∧ if f.right then IsSet l S else l = []
theorem FM.Ok.nodup {m : FM} (h : m.Ok) : m.keys.Nodup := h.is.nodup

theorem keys_len {m : FM} (h : m.Ok) {n : Nat} (hk : ∀ k ∈ m.keys, 0 ≤ k ∧ k < (n : Int)) : m.kv.length ≤ n := by
  have h1 : (m.keys.map Int.toNat).Nodup := by
    have h0 : m.keys.Nodup := h.is.nodup
    refine List.Pairwise.map _ (fun a b hab => ?_) (List.Pairwise.and_mem.1 h0)
    obtain ⟨ha, hb, hne⟩ := hab
    have := hk a ha; have := hk b hb
    omega
  have h2 := List.Nodup.length_le_of_subset (l₂ := List.range n) h1 (fun x hx => by
    obtain ⟨k, hk', rfl⟩ := List.mem_map.1 hx
    have := hk k hk'
    exact List.mem_range.2 (by omega))
  simpa [FM.keys] using h2

theorem reach_sp (f : TF) (w : World) (hf : CodeIn (hw w) f.cA f.code) :
    Sp Try.prog 10 [f.val] w [] (fun y : Value × HL => .tuple #[y.1, .int .i64 (errOf f)]) (fun y => [y.2]) (ListAns f (Rch (nxt f.code) [0])) := by
  refine enter (s := Try.sx) [] Try.func10 rfl rfl rfl (Eff.refl w) ?_
  repeat' (first | refine g_pv rfl rfl ?_ | refine g_ld 0 rfl rfl rfl rfl rfl rfl ?_ | refine g_nil ?_ | refine gq_then ?_ | refine gc_seq ?_ | refine gc_region ?_ | refine g_box rfl rfl (fun _ => ?_))
  refine g_call rfl (Cl.of Try.func28 rfl rfl) rfl rfl (fun w' hE => drawn_sp f w' (hf.le (fun b o h => old_le hE b o (old_le0 _ w b o h)))) rfl ?_
  rintro ⟨gv, GA'⟩ hg
  dsimp only at hg ⊢
  repeat' (first | refine g_pv rfl rfl ?_ | refine g_nil ?_ | refine gq_then ?_ | refine gc_seq ?_ | refine gc_region ?_)
  cases hr : f.right with
  | false =>
    simp only [hr, if_false, Bool.false_eq_true] at hg ⊢
    repeat' (first | refine g_pv rfl rfl ?_ | refine g_nil ?_ | refine gq_then ?_ | refine gc_seq ?_ | refine gc_region ?_ | refine gc_cond_t rfl ?_ | refine gc_ret ?_ | refine gq_then_ret ?_)
    exact gq_ret2 (.inr rfl) rfl rfl rfl rfl (fun w' H => ⟨(.slice none 0 0, []), ⟨[], OwnL.nil _ _ _, by simp [hr]⟩, by simp [errOf, hr], hp_perm (hp_nil H) (by simp)⟩)
  | true =>
    simp only [hr, if_true] at hg ⊢
    obtain ⟨hn1, hn2, _, _⟩ := TF.right_n hr
    obtain ⟨gb, nv, fv, rfl, hgin⟩ := hg.grin
    repeat' (first | refine g_pv rfl rfl ?_ | refine gq_then ?_ | refine gc_seq ?_ | refine gc_region ?_ | refine gc_cond_f rfl ?_ | refine gc_skip ?_)
    refine g_call rfl (Cl.of Try.func31 rfl rfl) rfl rfl (fun w' hE => reached_sp f gb nv fv w' (hgin _ (hp_in hE 0 rfl)) hn1 hn2) rfl ?_
    rintro m ⟨hm1, hm2⟩
    have hkl := keys_len (n := f.code.length) hm1 (fun k hk => by
      obtain ⟨u, rfl, hu⟩ := (hm2 k).1 hk
      have := hu.lt (n := f.code.length) (fun k hk => by simp at hk; omega) (fun u _ => nxt_in f.code u)
      omega)
    repeat' (fail)
    refine g_callA rfl rfl (Cl.of Try.func29 rfl rfl) rfl rfl (fun w' hE => rising_sp m.r m.es m.clock m.kv w' hm1.is (hp_eff hE) (by omega)) rfl ?_
    rintro ⟨v2, A2⟩ ho2
    repeat' (first | refine g_pv rfl rfl ?_ | refine g_nil ?_ | refine gq_then ?_ | refine gc_ret ?_)
    exact gq_ret2 (.inr rfl) rfl rfl rfl rfl (fun w' H => ⟨(v2, A2), ⟨_, ho2, by rw [if_pos hr]; exact sorted_set hm1.nodup hm2⟩, by simp [errOf, hr], hp_take 0 rfl (fun H => hp_nil H) H⟩)
end Go.Proofs.Ytpmkkmahimdjkaa

/- flow.Starts. -/
namespace Go.Proofs.Ytpmkkmahimdjkaa
open Go.Wk
set_option linter.unusedVariables false
set_option linter.unusedSimpArgs false
attribute [local irreducible] G GC GQ GA GS Exit.then Exit.inBlock

structure FM.OkI (m : FM) : Prop where
  is : MapIs KI m.kv m.es m.clock
  int : ∀ p ∈ m.kv, ∃ n : Int, p.2 = .int .i64 n
theorem FM.OkI.look {m : FM} (h : m.OkI) (k : Int) : ∃ n : Int, (ml m.kv k).getD (.int .i64 0) = .int .i64 n := by
  cases hm : ml m.kv k with
  | none => exact ⟨0, rfl⟩
  | some v => exact h.int _ (ml_mem hm)
theorem okI_put {m : FM} {es : Array MapEntry} {clock : Nat} {k n : Int} (h : m.OkI) (M : MapIs KI (mput m.kv k (.int .i64 n)) es clock) : FM.OkI ⟨m.r, es, clock, mput m.kv k (.int .i64 n)⟩ :=
  ⟨M, fun p hp => by
    rcases mput_mem p hp with h1 | h1
    · exact ⟨n, h1⟩
    · exact h.int p h1⟩
theorem keys_lenI {m : FM} (h : m.OkI) {n : Nat} (hk : ∀ k ∈ m.keys, 0 ≤ k ∧ k < (n : Int)) : m.kv.length ≤ n := by
  have h1 : (m.keys.map Int.toNat).Nodup := by
    have h0 : m.keys.Nodup := h.is.nodup
    refine List.Pairwise.map _ (fun a b hab => ?_) (List.Pairwise.and_mem.1 h0)
    obtain ⟨ha, hb, hne⟩ := hab
    have := hk a ha; have := hk b hb
    omega
  have h2 := List.Nodup.length_le_of_subset (l₂ := List.range n) h1 (fun x hx => by
    obtain ⟨k, hk', rfl⟩ := List.mem_map.1 hx
    have := hk k hk'
    exact List.mem_range.2 (by omega))
  simpa [FM.keys] using h2

/-- Where blocks begin, by instruction i. -/
def startsAt (n : Nat) (x : Ins) (i : Nat) (v : Int) : Prop := ((x.op = 10 ∨ x.op = 11) ∧ v = x.n) ∨ ((x.op = 10 ∨ x.op = 11 ∨ x.op = 9 ∨ x.op = 14) ∧ v = (i : Int) + 1 ∧ v < n)
def startsBy (code : List Ins) (j : Nat) (v : Int) : Prop := v = 0 ∨ ∃ i x, i < j ∧ code[i]? = some x ∧ startsAt code.length x i v
theorem startsBy_succ (code : List Ins) (j : Nat) (x : Ins) (hx : code[j]? = some x) (v : Int) : startsBy code (j + 1) v ↔ startsBy code j v ∨ startsAt code.length x j v := by
  unfold startsBy
  constructor
  · rintro (h | ⟨i, y, hi, hy, h⟩)
    · exact .inl (.inl h)
    · by_cases hij : i = j
      · subst hij; rw [hx] at hy; cases hy; exact .inr h
      · exact .inl (.inr ⟨i, y, by omega, hy, h⟩)
  · rintro ((h | ⟨i, y, hi, hy, h⟩) | h)
    · exact .inl h
    · exact .inr ⟨i, y, by omega, hy, h⟩
    · exact .inr ⟨j, x, by omega, hx, h⟩
theorem right_jump {f : TF} (h : f.right = true) {i : Nat} (hi : i < f.code.length) (hop : f.code[i].op = 10 ∨ f.code[i].op = 11) : 0 ≤ f.code[i].n ∧ f.code[i].n < f.code.length := by
  simp only [TF.right, Bool.and_eq_true, List.all_eq_true] at h
  have h1 := h.2 f.code[i] (List.getElem_mem hi)
  simp only [insOk, Bool.and_eq_true, Bool.not_eq_true'] at h1
  have h2 := h1.1.1
  simp only [jumpBad, Bool.and_eq_false_iff, Bool.or_eq_false_iff, beq_eq_false_iff_ne, ne_eq, decide_eq_false_iff_not] at h2
  rcases h2 with h2 | h2
  · rcases hop with h | h
    · exact absurd h h2.1
    · exact absurd h h2.2
  · omega

structure SS where
  i : Nat
  m : FM

set_option maxHeartbeats 4000000 in
theorem starts_sp (f : TF) (w : World) (hf : CodeIn (hw w) f.cA f.code) :
    Sp Try.prog 8 [f.val] w [] (fun y : Value × HL => .tuple #[y.1, .int .i64 (errOf f)]) (fun y => [y.2]) (ListAns f (fun u => startsBy f.code f.code.length u)) := by
  refine enter (s := Try.sx) [] Try.func8 rfl rfl rfl (Eff.refl w) ?_
  repeat' (first | refine g_pv rfl rfl ?_ | refine g_ld 0 rfl rfl rfl rfl rfl rfl ?_ | refine g_nil ?_ | refine gq_then ?_ | refine gc_seq ?_ | refine gc_region ?_ | refine g_box rfl rfl (fun _ => ?_))
  rename_i b1
  refine g_call rfl (Cl.of Try.func28 rfl rfl) rfl rfl (fun w' hE => drawn_sp f w' (hf.le (fun b o h => old_le hE b o (old_le0 _ w b o h)))) rfl ?_
  rintro ⟨gv, GA'⟩ hg
  dsimp only at hg ⊢
  repeat' (first | refine g_pv rfl rfl ?_ | refine g_nil ?_ | refine gq_then ?_ | refine gc_seq ?_ | refine gc_region ?_)
  cases hr : f.right with
  | false =>
    simp only [hr, if_false, Bool.false_eq_true] at hg ⊢
    repeat' (first | refine g_pv rfl rfl ?_ | refine g_nil ?_ | refine gq_then ?_ | refine gc_seq ?_ | refine gc_region ?_ | refine gc_cond_t rfl ?_ | refine gc_ret ?_ | refine gq_then_ret ?_)
    exact gq_ret2 (.inr rfl) rfl rfl rfl rfl (fun w' H => ⟨(.slice none 0 0, []), ⟨[], OwnL.nil _ _ _, by simp [hr]⟩, by simp [errOf, hr], hp_perm (hp_nil H) (by simp)⟩)
  | true =>
    simp only [hr, if_true] at hg ⊢
    obtain ⟨hn1, hn2, _, _⟩ := TF.right_n hr
    repeat' (first | refine gq_then ?_ | refine gc_seq ?_ | refine gc_region ?_ | refine gc_cond_f rfl ?_ | refine gc_skip ?_)
    refine g_mkmap rfl (fun r => ?_)
    refine g_ins 0 (kf := KI) (k := (0 : Int)) rfl rfl rfl rfl rfl (kl_int (Try.sx.ok.at rfl)) (mapIs_nil _ _) (fun es0 clock0 M0 => ?_)
    repeat' (first | refine g_pv rfl rfl ?_ | refine g_ld 2 rfl rfl rfl rfl rfl rfl ?_ | refine g_nil ?_ | refine gq_then ?_ | refine gc_seq ?_ | refine gc_region ?_ | refine gc_block ?_)
    refine gc_loop (Y := SS) (fun y => y.i ≤ f.code.length ∧ y.m.OkI ∧ ∀ v, v ∈ y.m.keys ↔ startsBy f.code y.i v)
      (fun y => [(1, .pointer (some ⟨b1, 0, none⟩)), (6, .map (some y.m.r)), (20, .slice f.cA f.code.length f.cC), (21, .int .i64 f.code.length), (22, .int .i64 y.i)]) (fun y => [y.m.hl, [(b1, .cells ⟨f.cells⟩ 25 (0, 0))]])
      (fun y => f.code.length - y.i) ⟨0, ⟨r, es0, clock0, mput [] 0 (.int .i64 1)⟩⟩ ⟨Nat.zero_le _, okI_put (m := ⟨r, #[], 0, []⟩) ⟨mapIs_nil _ _, fun _ h => (by cases h)⟩ M0, fun v => ?_⟩ ⟨rfl, rfl, rfl, rfl, rfl, trivial⟩ (fun w' H => hp_take 0 rfl (fun H => hp_take 1 rfl (fun H => hp_nil H) H) H) ?_
    · simp [FM.keys, mput, startsBy]
    rintro ⟨i, m⟩ ⟨hi, hm, hkeys⟩
    try dsimp only at hi hm hkeys ⊢
    repeat' (first | refine g_pv rfl rfl ?_ | refine g_nil ?_ | refine gq_then ?_ | refine gc_seq ?_ | refine gc_region ?_)
    refine gc_condC rfl (fun hc => ?_) (fun hc => ?_)
    · have hlt : i < f.code.length := by have := of_decide_eq_true hc; omega
      have hjump := right_jump hr hlt
      have hci : f.code[i]? = some f.code[i] := List.getElem?_eq_getElem hlt
      have hsucc := startsBy_succ f.code i f.code[i] hci
      repeat' (first | refine gq_then ?_ | refine gc_skip ?_)
      refine gc_seq ?_
      repeat' (refine gc_block ?_)
      refine gc_seq ?_
      repeat' (first | refine g_pv rfl rfl ?_ | refine gc_region ?_)
      refine g_at (l := f.code) (f := Ins.cells) (u := f.code[i]) rfl rfl rfl rfl rfl (Int.natCast_nonneg i) (by omega) (hf.row.le (old_le0 _ w)) hci rfl rfl rfl rfl (fun _ => ?_)
      generalize f.code[i] = x at hci hjump hsucc ⊢
      repeat' (first | refine g_pv rfl rfl ?_ | refine g_nil ?_ | refine gq_then ?_ | refine g_alloc rfl rfl (fun _ => ?_) | refine g_st 0 rfl rfl rfl rfl rfl rfl rfl ?_)
      rename_i b8
      refine gc_cut (Y := FM) (fun y => y.OkI ∧ (x.op = 10 ∨ x.op = 11 ∨ x.op = 9 ∨ x.op = 14) ∧ ∀ v, v ∈ y.keys ↔ startsBy f.code i v ∨ ((x.op = 10 ∨ x.op = 11) ∧ v = x.n))
        (fun y => [(1, .pointer (some ⟨b1, 0, none⟩)), (6, .map (some y.r)), (7, .int .i64 i), (20, .slice f.cA f.code.length f.cC), (21, .int .i64 f.code.length), (22, .int .i64 i)]) (fun y => [y.hl, [(b1, .cells ⟨f.cells⟩ 25 (0, 0))]]) ?_ ?_
      · repeat' (first | refine g_pv rfl rfl ?_ | refine g_ld 0 rfl rfl rfl rfl rfl rfl ?_ | refine g_nil ?_ | refine gq_then ?_ | refine gc_seq ?_ | refine gc_region ?_ | refine gc_block ?_ | refine gc_cond_t rfl ?_ | refine gc_skip ?_ | refine gc_exit ?_ | refine gq_then_exit ?_ | refine gq_block ?_ | refine gq_block_exit ?_ | refine gq_block_exit' rfl ?_ | refine gc_condC rfl (fun hq => ?_) (fun hq => ?_))
        all_goals simp only [beq_iff_eq, beq_eq_false_iff_ne, ne_eq] at *
        · obtain ⟨cn, hcn⟩ := hm.look x.n
          refine g_look 1 (kf := KI) (k := x.n) rfl rfl rfl rfl rfl (kl_int (Try.sx.ok.at rfl)) hm.is rfl ?_
          rw [show ((ml m.kv x.n).getD (Value.int .i64 0)) = _ from hcn]
          repeat' (refine g_pv rfl rfl ?_)
          refine g_upd 1 (kf := KI) (k := x.n) rfl rfl rfl rfl rfl (kl_int (Try.sx.ok.at rfl)) hm.is (fun es' clock' M' => ?_)
          repeat' (first | refine g_nil ?_ | refine gq_block ?_)
          refine gq_at ⟨m.r, es', clock', _⟩ ⟨okI_put hm M', by simp [*], fun v => ?_⟩ ⟨rfl, rfl, rfl, rfl, rfl, rfl, trivial⟩ (fun w' H => hp_tail H)
          rw [FM.keys, mem_keys_mput, ← hkeys]; simp [*, FM.keys, or_comm]
        · obtain ⟨cn, hcn⟩ := hm.look x.n
          refine g_look 1 (kf := KI) (k := x.n) rfl rfl rfl rfl rfl (kl_int (Try.sx.ok.at rfl)) hm.is rfl ?_
          rw [show ((ml m.kv x.n).getD (Value.int .i64 0)) = _ from hcn]
          repeat' (refine g_pv rfl rfl ?_)
          refine g_upd 1 (kf := KI) (k := x.n) rfl rfl rfl rfl rfl (kl_int (Try.sx.ok.at rfl)) hm.is (fun es' clock' M' => ?_)
          repeat' (first | refine g_nil ?_ | refine gq_block ?_)
          refine gq_at ⟨m.r, es', clock', _⟩ ⟨okI_put hm M', by simp [*], fun v => ?_⟩ ⟨rfl, rfl, rfl, rfl, rfl, rfl, trivial⟩ (fun w' H => hp_tail H)
          rw [FM.keys, mem_keys_mput, ← hkeys]; simp [*, FM.keys, or_comm]
        · exact gq_at m ⟨hm, by simp [*], fun v => by rw [hkeys]; simp [*]⟩ ⟨rfl, rfl, rfl, rfl, rfl, rfl, trivial⟩ (fun w' H => hp_tail H)
        · exact gq_at m ⟨hm, by simp [*], fun v => by rw [hkeys]; simp [*]⟩ ⟨rfl, rfl, rfl, rfl, rfl, rfl, trivial⟩ (fun w' H => hp_tail H)
        · refine gq_again ⟨i + 1, m⟩ ⟨hlt, hm, fun v => ?_⟩ (by simp only; omega) ⟨rfl, rfl, rfl, rfl, inc_eq (by omega), trivial⟩ (fun w' H => hp_tail H)
          rw [hkeys, hsucc]; simp [startsAt, *]
      · rintro m2 ⟨hm2, hop, hkeys2⟩
        try dsimp only
        have e41 : IntKind.i64.wrap ((i : Int) + 1) = ((i + 1 : Nat) : Int) := by rw [IntKind.wrap_i64]; omega
        repeat' (first | refine g_pv rfl rfl ?_ | refine g_ld 1 rfl rfl rfl rfl rfl rfl ?_ | refine g_nil ?_ | refine gq_then ?_ | refine gc_seq ?_ | refine gc_region ?_)
        rw [e41]
        refine gc_condC rfl (fun hq => ?_) (fun hq => ?_)
        · have hq' : ((i + 1 : Nat) : Int) < f.code.length := of_decide_eq_true hq
          repeat' (first | refine g_pv rfl rfl ?_ | refine gc_region ?_)
          rw [e41]
          obtain ⟨cn, hcn⟩ := hm2.look ((i + 1 : Nat) : Int)
          refine g_look 0 (kf := KI) (k := ((i + 1 : Nat) : Int)) rfl rfl rfl rfl rfl (kl_int (Try.sx.ok.at rfl)) hm2.is rfl ?_
          rw [show ((ml m2.kv ((i + 1 : Nat) : Int)).getD (Value.int .i64 0)) = _ from hcn]
          repeat' (refine g_pv rfl rfl ?_)
          refine g_upd 0 (kf := KI) (k := ((i + 1 : Nat) : Int)) rfl rfl rfl rfl rfl (kl_int (Try.sx.ok.at rfl)) hm2.is (fun es' clock' M' => ?_)
          repeat' (first | refine g_pv rfl rfl ?_ | refine g_nil ?_ | refine gq_then ?_ | refine gc_region ?_ | refine gq_block ?_)
          refine gq_again ⟨i + 1, ⟨m2.r, es', clock', _⟩⟩ ⟨hlt, okI_put hm2 M', fun v => ?_⟩ (by simp only; omega) ⟨rfl, rfl, rfl, rfl, inc_eq (by omega), trivial⟩ (fun w' H => H)
          rw [FM.keys, mem_keys_mput, hsucc, startsAt]
          have := hkeys2 v
          unfold FM.keys at this
          rw [this]
          constructor
          · rintro (h | h | h)
            · exact .inr (.inr ⟨hop, by omega, by omega⟩)
            · exact .inl h
            · exact .inr (.inl h)
          · rintro (h | h | ⟨_, h, _⟩)
            · exact .inr (.inl h)
            · exact .inr (.inr h)
            · exact .inl (by omega)
        · have hq' : ¬ ((i + 1 : Nat) : Int) < f.code.length := of_decide_eq_false hq
          repeat' (first | refine g_pv rfl rfl ?_ | refine g_nil ?_ | refine gq_then ?_ | refine gc_region ?_ | refine gc_skip ?_ | refine gq_block ?_)
          refine gq_again ⟨i + 1, m2⟩ ⟨hlt, hm2, fun v => ?_⟩ (by simp only; omega) ⟨rfl, rfl, rfl, rfl, inc_eq (by omega), trivial⟩ (fun w' H => H)
          rw [hkeys2, hsucc, startsAt]
          constructor
          · rintro (h | h)
            · exact .inl h
            · exact .inr (.inl h)
          · rintro (h | h | ⟨_, h, h2⟩)
            · exact .inl h
            · exact .inr h
            · omega
    · have hge : i = f.code.length := by have := of_decide_eq_false hc; omega
      subst hge
      have hin : ∀ k ∈ m.keys, 0 ≤ k ∧ k < (f.code.length : Int) := fun k hk => by
        rcases (hkeys k).1 hk with h | ⟨i, x, hi', hx, h⟩
        · omega
        · obtain ⟨hlt, rfl⟩ := List.getElem?_eq_some_iff.1 hx
          rcases h with ⟨ho, h⟩ | ⟨_, h, h2⟩
          · have := right_jump hr hlt ho; omega
          · omega
      have hkl := keys_lenI hm hin
      repeat' (first | refine g_pv rfl rfl ?_ | refine gq_then ?_ | refine gc_seq ?_ | refine gc_region ?_ | refine gc_exit ?_ | refine gq_then_exit ?_ | refine gq_block_exit ?_)
      refine g_callA rfl rfl (Cl.of Try.func29 rfl rfl) rfl rfl (fun w' hE => rising_sp m.r m.es m.clock m.kv w' hm.is (hp_eff hE) (by omega)) rfl ?_
      rintro ⟨v2, A2⟩ ho2
      repeat' (first | refine g_pv rfl rfl ?_ | refine g_nil ?_ | refine gq_then ?_ | refine gc_ret ?_)
      refine gq_ret2 (.inr rfl) rfl rfl rfl rfl (fun w' H => ⟨(v2, A2), ⟨_, ho2, ?_⟩, by simp [errOf, hr], hp_take 0 rfl (fun H => hp_nil H) H⟩)
      rw [if_pos hr]
      refine sorted_set hm.is.nodup (fun v => ?_)
      show v ∈ m.keys ↔ _
      constructor
      · intro h
        have h1 := hin v h
        exact ⟨v.toNat, by omega, by rw [Int.toNat_of_nonneg h1.1]; exact (hkeys v).1 h⟩
      · rintro ⟨u, rfl, h⟩; exact (hkeys _).2 h
end Go.Proofs.Ytpmkkmahimdjkaa

/- The document's Starts. -/
namespace Go.Proofs.Ytpmkkmahimdjkaa
open Go.Wk
set_option linter.unusedVariables false
set_option linter.unusedSimpArgs false
attribute [local irreducible] G GC GQ GA GS Exit.then Exit.inBlock

theorem toldN_mem (bs : List Bool) (k : Nat) (v : Int) : v ∈ toldN bs k ↔ ∃ u : Nat, v = u ∧ u < k ∧ bs.getD u false = true := by
  unfold toldN
  simp only [List.mem_map, List.mem_filter, List.mem_range]
  constructor
  · rintro ⟨u, ⟨h1, h2⟩, rfl⟩; exact ⟨u, rfl, h1, h2⟩
  · rintro ⟨u, rfl, h1, h2⟩; exact ⟨u, ⟨h1, h2⟩, rfl⟩
theorem toldN_set (bs : List Bool) (k : Nat) : IsSet (toldN bs k) (fun u => u < k ∧ bs.getD u false = true) := by
  refine ⟨?_, toldN_mem bs k⟩
  unfold toldN
  refine List.Pairwise.map _ (fun a b h => Int.ofNat_lt.2 h) (List.Pairwise.filter _ List.pairwise_lt_range)
theorem IsSet.congr {l : List Int} {S T : Nat → Prop} (h : IsSet l S) (hst : ∀ u, S u ↔ T u) : IsSet l T := ⟨h.1, fun v => by rw [h.2]; constructor <;> rintro ⟨u, h1, h2⟩ <;> exact ⟨u, h1, by first | exact (hst u).1 h2 | exact (hst u).2 h2⟩⟩
theorem getD_set (bs : List Bool) (i u : Nat) (h : i < bs.length) : (bs.set i true).getD u false = (decide (u = i) || bs.getD u false) := by
  by_cases hu : u = i
  · subst hu; simp [List.getD, List.getElem?_set_self h]
  · simp [List.getD, List.getElem?_set_ne (Ne.symm hu), hu]

/-- By the document: instruction i's marks. -/
def markAt (x : Ins) (i : Nat) (v : Int) : Prop := ((x.op = 10 ∨ x.op = 11) ∧ v = x.n) ∨ ((x.op = 10 ∨ x.op = 11 ∨ x.op = 9 ∨ x.op = 14) ∧ v = (i : Int) + 1)
def markBy (code : List Ins) (j : Nat) (v : Int) : Prop := v = 0 ∨ ∃ i x, i < j ∧ code[i]? = some x ∧ markAt x i v
theorem markBy_succ (code : List Ins) (j : Nat) (x : Ins) (hx : code[j]? = some x) (v : Int) : markBy code (j + 1) v ↔ markBy code j v ∨ markAt x j v := by
  unfold markBy
  constructor
  · rintro (h | ⟨i, y, hi, hy, h⟩)
    · exact .inl (.inl h)
    · by_cases hij : i = j
      · subst hij; rw [hx] at hy; cases hy; exact .inr h
      · exact .inl (.inr ⟨i, y, by omega, hy, h⟩)
  · rintro ((h | ⟨i, y, hi, hy, h⟩) | h)
    · exact .inl h
    · exact .inr ⟨i, y, by omega, hy, h⟩
    · exact .inr ⟨j, x, by omega, hx, h⟩
theorem mark_starts (code : List Ins) (u : Nat) : (u < code.length ∧ markBy code code.length u) ↔ (startsBy code code.length u ∧ u < code.length) := by
  constructor
  · rintro ⟨hu, h⟩
    refine ⟨?_, hu⟩
    rcases h with h | ⟨i, x, h1, h2, h3⟩
    · exact .inl h
    · refine .inr ⟨i, x, h1, h2, ?_⟩
      rcases h3 with h3 | ⟨h3, h4⟩
      · exact .inl h3
      · exact .inr ⟨h3, h4, by omega⟩
  · rintro ⟨h, hu⟩
    refine ⟨hu, ?_⟩
    rcases h with h | ⟨i, x, h1, h2, h3⟩
    · exact .inl h
    · refine .inr ⟨i, x, h1, h2, ?_⟩
      rcases h3 with h3 | ⟨h3, h4, _⟩
      · exact .inl h3
      · exact .inr ⟨h3, h4⟩
theorem starts_lt {f : TF} (h : f.right = true) (u : Nat) (hs : startsBy f.code f.code.length u) : u < f.code.length := by
  have := TF.right_n h
  rcases hs with h1 | ⟨i, x, hi', hx, h1⟩
  · omega
  · obtain ⟨hlt, rfl⟩ := List.getElem?_eq_some_iff.1 hx
    rcases h1 with ⟨ho, h1⟩ | ⟨_, h1, h2⟩
    · have := right_jump h hlt ho; omega
    · omega

structure RS where
  i : Nat
  bs : List Bool
  A : HL

theorem own_bools (g n : Nat) (hn : n ≤ maxLen) : OwnL 4 1 fB (.slice (some ⟨g, 0, none⟩) n n) (List.replicate n false) [(g, .cells ⟨rep n [.bool false]⟩ 4 (0, 0))] :=
  own_make (te := ⟨.bool, .bool false, 1, 1⟩) (f := fB) false rfl rfl g n hn

set_option maxHeartbeats 8000000 in
theorem rstarts_sp (f : TF) (w : World) (hf : CodeIn (hw w) f.cA f.code) :
    Sp Try.prog 9 [f.val] w [] (fun y : Value × HL => .tuple #[y.1, .int .i64 (errOf f)]) (fun y => [y.2]) (ListAns f (fun u => startsBy f.code f.code.length u)) := by
  refine enter (s := Try.sx) [] Try.func9 rfl rfl rfl (Eff.refl w) ?_
  repeat' (first | refine g_pv rfl rfl ?_ | refine g_ld 0 rfl rfl rfl rfl rfl rfl ?_ | refine g_nil ?_ | refine gq_then ?_ | refine gc_seq ?_ | refine gc_region ?_ | refine g_box rfl rfl (fun _ => ?_))
  rename_i b1
  refine g_call rfl (Cl.of Try.func24 rfl rfl) rfl rfl (fun w' hE => right_sp f w' (hf.le (fun b o h => old_le hE b o (old_le0 _ w b o h)))) rfl ?_
  rintro ⟨⟩ -
  repeat' (first | refine g_pv rfl rfl ?_ | refine g_nil ?_ | refine gq_then ?_)
  cases hr : f.right with
  | false =>
    repeat' (first | refine g_pv rfl rfl ?_ | refine g_nil ?_ | refine gq_then ?_ | refine gc_seq ?_ | refine gc_region ?_ | refine gc_cond_t rfl ?_ | refine gc_ret ?_ | refine gq_then_ret ?_)
    exact gq_ret2 (.inr rfl) rfl rfl rfl rfl (fun w' H => ⟨(.slice none 0 0, []), ⟨[], OwnL.nil _ _ _, by simp [hr]⟩, by simp [errOf, hr], hp_perm (hp_nil H) (by simp)⟩)
  | true =>
    obtain ⟨hn1, hn2, _, _⟩ := TF.right_n hr
    have e1 : IntKind.i64.wrap ((f.code.length : Int) + 1) = ((f.code.length + 1 : Nat) : Int) := by rw [IntKind.wrap_i64]; omega
    repeat' (first | refine g_pv rfl rfl ?_ | refine g_ld 0 rfl rfl rfl rfl rfl rfl ?_ | refine gq_then ?_ | refine gc_seq ?_ | refine gc_region ?_ | refine gc_cond_f rfl ?_ | refine gc_skip ?_)
    rw [e1]
    refine g_make (n := f.code.length + 1) (c := f.code.length + 1) rfl rfl rfl rfl rfl (Nat.le_refl _) (by show 1 * _ ≤ _; omega) (by omega) rfl (fun g => ?_)
    have ho0 := own_bools g (f.code.length + 1) (by unfold maxLen; omega)
    repeat' (first | refine g_pv rfl rfl ?_ | refine g_nil ?_ | refine gq_then ?_ | refine gc_seq ?_ | refine gc_region ?_)
    refine g_setL 0 (f := fB) (q := true) rfl rfl ho0 (fun _ => rfl) rfl rfl rfl rfl (by omega) (by simp) rfl rfl rfl rfl rfl (fun _ A1 ho1 => ?_)
    repeat' (first | refine g_pv rfl rfl ?_ | refine g_nil ?_ | refine gq_then ?_ | refine gc_seq ?_ | refine gc_region ?_ | refine gc_block ?_)
    refine gc_loop (Y := RS) (fun y => y.i ≤ f.code.length ∧ y.bs.length = f.code.length + 1 ∧ OwnL 4 1 fB (.slice (some ⟨g, 0, none⟩) (f.code.length + 1) (f.code.length + 1)) y.bs y.A ∧ ∀ u : Nat, u ≤ f.code.length → (y.bs.getD u false = true ↔ markBy f.code y.i u))
      (fun y => [(1, .pointer (some ⟨b1, 0, none⟩)), (4, .slice (some ⟨g, 0, none⟩) (f.code.length + 1) (f.code.length + 1)), (5, .int .i64 y.i)]) (fun y => [y.A, [(b1, .cells ⟨f.cells⟩ 25 (0, 0))]])
      (fun y => f.code.length - y.i) ⟨0, _, A1⟩ ⟨Nat.zero_le _, by simp, ho1, fun u hu => ?_⟩ ⟨rfl, rfl, rfl, trivial⟩ (fun w' H => H) ?_
    · have : (List.replicate (f.code.length + 1) false).getD u false = false := by simp [List.getD, List.getElem?_replicate]; split <;> rfl
      show ((List.replicate (f.code.length + 1) false).set 0 true).getD u false = true ↔ _
      rw [getD_set _ _ _ (by simp), this]; simp [markBy]
    rintro ⟨i, bs, A⟩ ⟨hi, hbl, ho, hbs⟩
    try dsimp only at hi hbl ho hbs ⊢
    repeat' (first | refine g_pv rfl rfl ?_ | refine g_ld 1 rfl rfl rfl rfl rfl rfl ?_ | refine g_nil ?_ | refine gq_then ?_ | refine gc_seq ?_ | refine gc_region ?_)
    refine gc_condC rfl (fun hc => ?_) (fun hc => ?_)
    · have hlt : i < f.code.length := by have := of_decide_eq_true hc; omega
      have hjump := right_jump hr hlt
      have hci : f.code[i]? = some f.code[i] := List.getElem?_eq_getElem hlt
      have hsucc := markBy_succ f.code i f.code[i] hci
      have e5 : IntKind.i64.wrap ((i : Int) + 1) = ((i + 1 : Nat) : Int) := by rw [IntKind.wrap_i64]; omega
      repeat' (first | refine g_pv rfl rfl ?_ | refine g_ld 1 rfl rfl rfl rfl rfl rfl ?_ | refine gq_then ?_ | refine gc_seq ?_ | refine gc_region ?_ | refine gc_block ?_ | refine gc_skip ?_)
      refine g_atF (l := f.code) (f := Ins.cells) (q := f.code[i]) rfl rfl rfl rfl rfl rfl rfl rfl (Int.natCast_nonneg i) (by omega) (hf.row.le (old_le0 _ w)) hci rfl rfl rfl rfl rfl (fun _ _ => ?_)
      generalize f.code[i] = x at hci hjump hsucc ⊢
      repeat' (first | refine g_pv rfl rfl ?_ | refine g_ld 1 rfl rfl rfl rfl rfl rfl ?_ | refine g_nil ?_ | refine gq_then ?_ | refine gc_seq ?_ | refine gc_region ?_ | refine gc_block ?_ | refine gc_cond_t rfl ?_ | refine gc_skip ?_ | refine gq_block ?_ | refine gc_condC rfl (fun hq => ?_) (fun hq => ?_))
      all_goals simp only [beq_iff_eq, beq_eq_false_iff_ne, ne_eq] at *
      · refine g_atF (l := f.code) (f := Ins.cells) (q := x) rfl rfl rfl rfl rfl rfl rfl rfl (Int.natCast_nonneg i) (by omega) (hf.row.le (old_le0 _ w)) hci rfl rfl rfl rfl rfl (fun _ _ => ?_)
        have hj := hjump (by simp [*])
        refine g_setL 0 (f := fB) (q := true) rfl rfl ho (fun _ => rfl) rfl rfl rfl rfl hj.1 (by omega) rfl rfl rfl rfl rfl (fun _ A1 ho1 => ?_)
        repeat' (first | refine g_pv rfl rfl ?_ | refine g_nil ?_ | refine gq_then ?_ | refine gc_region ?_)
        rw [e5]
        refine g_setL 0 (f := fB) (q := true) rfl rfl ho1 (fun _ => rfl) rfl rfl rfl rfl (by omega) (by simp; omega) rfl rfl rfl rfl rfl (fun _ A2 ho2 => ?_)
        repeat' (first | refine g_pv rfl rfl ?_ | refine g_nil ?_ | refine gq_then ?_ | refine gc_region ?_ | refine gq_block ?_)
        refine gq_again ⟨i + 1, _, A2⟩ ⟨hlt, by simp [hbl], ho2, fun u hu => ?_⟩ (by simp only; omega) ⟨rfl, rfl, inc_eq (by omega), trivial⟩ (fun w' H => H)
        dsimp only
        rw [getD_set _ _ _ (by simp; omega), getD_set _ _ _ (by omega), hsucc, ← hbs u hu]
        simp only [Bool.or_eq_true, decide_eq_true_eq, markAt]
        constructor
        · rintro (h | h | h)
          · exact .inr (.inr ⟨by simp [*], by omega⟩)
          · exact .inr (.inl ⟨by simp [*], by omega⟩)
          · exact .inl h
        · rintro (h | ⟨_, h⟩ | ⟨_, h⟩)
          · exact .inr (.inr h)
          · exact .inr (.inl (by omega))
          · exact .inl (by omega)
      · refine g_atF (l := f.code) (f := Ins.cells) (q := x) rfl rfl rfl rfl rfl rfl rfl rfl (Int.natCast_nonneg i) (by omega) (hf.row.le (old_le0 _ w)) hci rfl rfl rfl rfl rfl (fun _ _ => ?_)
        have hj := hjump (by simp [*])
        refine g_setL 0 (f := fB) (q := true) rfl rfl ho (fun _ => rfl) rfl rfl rfl rfl hj.1 (by omega) rfl rfl rfl rfl rfl (fun _ A1 ho1 => ?_)
        repeat' (first | refine g_pv rfl rfl ?_ | refine g_nil ?_ | refine gq_then ?_ | refine gc_region ?_)
        rw [e5]
        refine g_setL 0 (f := fB) (q := true) rfl rfl ho1 (fun _ => rfl) rfl rfl rfl rfl (by omega) (by simp; omega) rfl rfl rfl rfl rfl (fun _ A2 ho2 => ?_)
        repeat' (first | refine g_pv rfl rfl ?_ | refine g_nil ?_ | refine gq_then ?_ | refine gc_region ?_ | refine gq_block ?_)
        refine gq_again ⟨i + 1, _, A2⟩ ⟨hlt, by simp [hbl], ho2, fun u hu => ?_⟩ (by simp only; omega) ⟨rfl, rfl, inc_eq (by omega), trivial⟩ (fun w' H => H)
        dsimp only
        rw [getD_set _ _ _ (by simp; omega), getD_set _ _ _ (by omega), hsucc, ← hbs u hu]
        simp only [Bool.or_eq_true, decide_eq_true_eq, markAt]
        constructor
        · rintro (h | h | h)
          · exact .inr (.inr ⟨by simp [*], by omega⟩)
          · exact .inr (.inl ⟨by simp [*], by omega⟩)
          · exact .inl h
        · rintro (h | ⟨_, h⟩ | ⟨_, h⟩)
          · exact .inr (.inr h)
          · exact .inr (.inl (by omega))
          · exact .inl (by omega)
      · rw [e5]
        refine g_setL 0 (f := fB) (q := true) rfl rfl ho (fun _ => rfl) rfl rfl rfl rfl (by omega) (by omega) rfl rfl rfl rfl rfl (fun _ A2 ho2 => ?_)
        repeat' (first | refine g_pv rfl rfl ?_ | refine g_nil ?_ | refine gq_then ?_ | refine gc_region ?_ | refine gq_block ?_)
        refine gq_again ⟨i + 1, _, A2⟩ ⟨hlt, by simp [hbl], ho2, fun u hu => ?_⟩ (by simp only; omega) ⟨rfl, rfl, inc_eq (by omega), trivial⟩ (fun w' H => H)
        dsimp only
        rw [getD_set _ _ _ (by omega), hsucc, ← hbs u hu]
        simp only [Bool.or_eq_true, decide_eq_true_eq, markAt]
        constructor
        · rintro (h | h)
          · exact .inr (.inr ⟨by simp [*], by omega⟩)
          · exact .inl h
        · rintro (h | ⟨h0, h⟩ | ⟨_, h⟩)
          · exact .inr h
          · simp [*] at h0
          · exact .inl (by omega)
      · rw [e5]
        refine g_setL 0 (f := fB) (q := true) rfl rfl ho (fun _ => rfl) rfl rfl rfl rfl (by omega) (by omega) rfl rfl rfl rfl rfl (fun _ A2 ho2 => ?_)
        repeat' (first | refine g_pv rfl rfl ?_ | refine g_nil ?_ | refine gq_then ?_ | refine gc_region ?_ | refine gq_block ?_)
        refine gq_again ⟨i + 1, _, A2⟩ ⟨hlt, by simp [hbl], ho2, fun u hu => ?_⟩ (by simp only; omega) ⟨rfl, rfl, inc_eq (by omega), trivial⟩ (fun w' H => H)
        dsimp only
        rw [getD_set _ _ _ (by omega), hsucc, ← hbs u hu]
        simp only [Bool.or_eq_true, decide_eq_true_eq, markAt]
        constructor
        · rintro (h | h)
          · exact .inr (.inr ⟨by simp [*], by omega⟩)
          · exact .inl h
        · rintro (h | ⟨h0, h⟩ | ⟨_, h⟩)
          · exact .inr h
          · simp [*] at h0
          · exact .inl (by omega)
      · refine gq_again ⟨i + 1, bs, A⟩ ⟨hlt, hbl, ho, fun u hu => ?_⟩ (by simp only; omega) ⟨rfl, rfl, inc_eq (by omega), trivial⟩ (fun w' H => H)
        dsimp only
        rw [hsucc, ← hbs u hu]; simp [markAt, *]
    · have hge : i = f.code.length := by have := of_decide_eq_false hc; omega
      subst hge
      repeat' (first | refine g_pv rfl rfl ?_ | refine g_ld 1 rfl rfl rfl rfl rfl rfl ?_ | refine gq_then ?_ | refine gc_seq ?_ | refine gc_region ?_ | refine gc_exit ?_ | refine gq_then_exit ?_ | refine gq_block_exit ?_)
      refine g_hi rfl rfl rfl rfl (by omega) rfl ?_
      have htl : (bs.take f.code.length).length = f.code.length := by simp; omega
      refine g_eq 55 (u' := .slice (some ⟨g, 0, none⟩) (bs.take f.code.length).length (f.code.length + 1)) rfl (by rw [htl]) ?_
      refine g_call rfl (Cl.of Try.func30 rfl rfl) rfl rfl (fun w' hE => told_sp (bs.take f.code.length) _ _ w' (fun q x hx => ?_) (by omega)) rfl ?_
      · obtain ⟨ad', cap', he, hrd⟩ := OwnL.rd (f := fB) (fun _ => rfl) ho (H := hw w') (hp_in hE 0 rfl)
        have he' := (Value.slice.inj he).1
        subst he'
        exact hrd q x (by
          rw [List.getElem?_take] at hx
          split at hx
          · exact hx
          · cases hx)
      rintro ⟨v2, A2⟩ ho2
      repeat' (first | refine g_pv rfl rfl ?_ | refine g_nil ?_ | refine gq_then ?_ | refine gc_ret ?_)
      refine gq_ret2 (.inr rfl) rfl rfl rfl rfl (fun w' H => ⟨(v2, A2), ⟨_, ho2, ?_⟩, by simp [errOf, hr], hp_take 0 rfl (fun H => hp_nil H) H⟩)
      rw [if_pos hr]
      refine (toldN_set _ _).congr (fun u => ?_)
      rw [htl]
      constructor
      · rintro ⟨hu, h⟩
        have h1 : bs.getD u false = true := by
          simp only [List.getD, List.getElem?_take, if_pos hu] at h; exact h
        exact ((mark_starts f.code u).1 ⟨hu, (hbs u (by omega)).1 h1⟩).1
      · intro h
        have hu := starts_lt hr u h
        refine ⟨hu, ?_⟩
        have := (hbs u (by omega)).2 ((mark_starts f.code u).2 ⟨h, hu⟩).2
        simp only [List.getD, List.getElem?_take, if_pos hu]; exact this
end Go.Proofs.Ytpmkkmahimdjkaa
