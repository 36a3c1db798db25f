/-
  The document's Copy: a program that differs in addresses alone, all of it one's own.
  The law TacChecks.
  TacChecks: PROVED FOR EVERY INPUT: the call returns true, and its argument reads as it read; over worlds whose listed tables read as the program lays them.
-/
import Derived.Test.YtpohhfggmaihpaaGreatDoorZ17
import Derived.Test.YtpohhfggmaihpaaGreatDoorZ14
import Derived.Test.YtpohhfggmaihpaaGreatDoorZ10

/- The document's Copy: a program that differs in addresses alone, all of it one's own. -/
namespace Go.Proofs.YtpohhfggmaihpaaGreatDoor
open Go.Wk
set_option linter.unusedVariables false
set_option linter.unusedSimpArgs false
attribute [local irreducible] G GC GQ GA GS Exit.then Exit.inBlock

def Holds (H : Nat → Option Obj) (B : HL) : Prop := ∀ b o, (b, o) ∈ B → H b = some o
theorem Holds.l {H : Nat → Option Obj} {A B : HL} (h : Holds H (A ++ B)) : Holds H A := fun b o hb => h b o (List.mem_append_left _ hb)
theorem Holds.r {H : Nat → Option Obj} {A B : HL} (h : Holds H (A ++ B)) : Holds H B := fun b o hb => h b o (List.mem_append_right _ hb)
theorem own_lit0 {α : Type} (e : TypeId) (sz : Nat) (f : α → List Value) (g : Nat) : OwnL e sz f (.slice (some ⟨g, 0, none⟩) 0 0) [] [(g, .cells ⟨[]⟩ e (0, 0))] :=
  ⟨by simp, .inr ⟨g, 0, [], rfl, rfl, Nat.le_refl _, by unfold maxLen; omega, by simp⟩⟩
theorem ownL_rd {α : Type} {e : TypeId} {sz n cap : Nat} {f : α → List Value} {ad : Option Addr} {l : List α} {A : HL} (h : OwnL e sz f (.slice ad n cap) l A) (hf : ∀ x, (f x).length = sz) {H : Nat → Option Obj} (hA : Holds H A) : Rd H f sz ad l := by
  obtain ⟨ad', cap', he, hr⟩ := OwnL.rd hf h hA
  cases he; exact hr
theorem ownL_cap {α : Type} {e : TypeId} {sz n cap : Nat} {f : α → List Value} {ad : Option Addr} {l : List α} {A : HL} (h : OwnL e sz f (.slice ad n cap) l A) : l.length ≤ cap := by
  rcases h.2 with ⟨he, h2, -⟩ | ⟨g, cap', rest, he, -, h3, -⟩
  · rw [h2]; exact Nat.zero_le _
  · cases he; exact h3
structure CO where
  k : Nat
  obs : List Ob
  ad : Option Addr
  cap : Nat
  A : HL
  B : HL
structure CF where
  k : Nat
  fns : List Fn
  ad : Option Addr
  cap : Nat
  A : HL
  B : HL
structure CC where
  k : Nat
  code : List Ins
  ad : Option Addr
  cap : Nat
  A : HL
  B : HL
structure COk (p : Pr) (y : CO) : Prop where
  le : y.k ≤ p.obs.length
  len : y.obs.length = y.k
  own : OwnL 66 5 Ob.cells (.slice y.ad y.obs.length y.cap) y.obs y.A
  er : y.obs.map Ob.er = (p.obs.take y.k).map Ob.er
  deep : ∀ x ∈ y.obs, ∀ H, Holds H y.B → ObIn H x
structure CFk (p : Pr) (y : CF) : Prop where
  le : y.k ≤ p.fns.length
  len : y.fns.length = y.k
  own : OwnL 32 6 Fn.cells (.slice y.ad y.fns.length y.cap) y.fns y.A
  er : y.fns.map Fn.er = (p.fns.take y.k).map Fn.er
  deep : ∀ x ∈ y.fns, ∀ H, Holds H y.B → FnIn H x
structure CCk (f : Fn) (B0 : HL) (y : CC) : Prop where
  le : y.k ≤ f.code.length
  len : y.code.length = y.k
  own : OwnL 43 12 Ins.cells (.slice y.ad y.code.length y.cap) y.code y.A
  er : y.code.map Ins.er = (f.code.take y.k).map Ins.er
  deep : ∀ x ∈ y.code, ∀ H, Holds H y.B → InsIn H x
  base : ∀ H, Holds H y.B → Holds H B0
theorem COk.next {p : Pr} {y : CO} (h : COk p y) {x : Ob} (hx : p.obs[y.k]? = some x) (hi : ∀ H, ObIn H x → True) {h0 : Nat → Option Obj} (hin : ObIn h0 x) {b1 b2 : Option Addr} {c1 c2 : Nat} {A1 A2 A3 : HL} {ad : Option Addr} {cap : Nat}
    (o1 : OwnL 5 1 fB (.slice b1 x.bytes.length c1) x.bytes A1) (o2 : OwnL 78 3 Rel.cells (.slice b2 x.rels.length c2) x.rels A2)
    (o3 : OwnL 66 5 Ob.cells (.slice ad (y.obs ++ [{ x with bA := b1, bC := c1, rA := b2, rC := c2 }]).length cap) (y.obs ++ [{ x with bA := b1, bC := c1, rA := b2, rC := c2 }]) A3) :
    COk p ⟨y.k + 1, y.obs ++ [{ x with bA := b1, bC := c1, rA := b2, rC := c2 }], ad, cap, A3, A2 ++ (A1 ++ y.B)⟩ := by
  have hlt := (List.getElem?_eq_some_iff.1 hx).1
  have hxe : p.obs[y.k] = x := (List.getElem?_eq_some_iff.1 hx).2
  refine ⟨hlt, by simp [h.len], o3, ?_, fun z hz H hH => ?_⟩
  · rw [List.take_succ_eq_append_getElem hlt, List.map_append, List.map_append, h.er, hxe]; rfl
  · rcases List.mem_append.1 hz with hz | hz
    · exact h.deep z hz H hH.r.r
    · rw [List.mem_singleton] at hz
      subst hz
      exact ⟨ownL_rd o1 (fun _ => rfl) hH.r.l, hin.blen, hin.bs, ownL_rd o2 (fun _ => rfl) hH.l, hin.rlen, hin.rs, hin.size, hin.align, ownL_cap o1⟩
theorem CCk.next {f : Fn} {B0 : HL} {y : CC} (h : CCk f B0 y) {x : Ins} (hx : f.code[y.k]? = some x) {h0 : Nat → Option Obj} (hin : InsIn h0 x) {b1 : Option Addr} {c1 : Nat} {A1 A3 : HL} {ad : Option Addr} {cap : Nat}
    (o1 : OwnL 40 2 Arg.cells (.slice b1 x.args.length c1) x.args A1)
    (o3 : OwnL 43 12 Ins.cells (.slice ad (y.code ++ [{ x with aA := b1, aC := c1 }]).length cap) (y.code ++ [{ x with aA := b1, aC := c1 }]) A3) :
    CCk f B0 ⟨y.k + 1, y.code ++ [{ x with aA := b1, aC := c1 }], ad, cap, A3, A1 ++ y.B⟩ := by
  have hlt := (List.getElem?_eq_some_iff.1 hx).1
  have hxe : f.code[y.k] = x := (List.getElem?_eq_some_iff.1 hx).2
  refine ⟨hlt, by simp [h.len], o3, ?_, fun z hz H hH => ?_, fun H hH => h.base H hH.r⟩
  · rw [List.take_succ_eq_append_getElem hlt, List.map_append, List.map_append, h.er, hxe]; rfl
  · rcases List.mem_append.1 hz with hz | hz
    · exact h.deep z hz H hH.r
    · rw [List.mem_singleton] at hz
      subst hz
      exact ⟨ownL_rd o1 (fun _ => rfl) hH.l, hin.len, hin.ok, hin.op, hin.d, hin.n⟩
theorem CFk.next {p : Pr} {y : CF} (h : CFk p y) {f : Fn} (hx : p.fns[y.k]? = some f) {h0 : Nat → Option Obj} (hin : FnIn h0 f) {b1 : Option Addr} {c1 : Nat} {A1 A3 : HL} {ad : Option Addr} {cap : Nat} {z : CC}
    (o1 : OwnL 90 2 Slt.cells (.slice b1 f.slots.length c1) f.slots A1) (hz : CCk f (A1 ++ y.B) z) (hzk : z.k = f.code.length)
    (o3 : OwnL 32 6 Fn.cells (.slice ad (y.fns ++ [{ f with sA := b1, sC := c1, code := z.code, cA := z.ad, cC := z.cap }]).length cap) (y.fns ++ [{ f with sA := b1, sC := c1, code := z.code, cA := z.ad, cC := z.cap }]) A3) :
    CFk p ⟨y.k + 1, y.fns ++ [{ f with sA := b1, sC := c1, code := z.code, cA := z.ad, cC := z.cap }], ad, cap, A3, z.A ++ z.B⟩ := by
  have hlt := (List.getElem?_eq_some_iff.1 hx).1
  have hxe : p.fns[y.k] = f := (List.getElem?_eq_some_iff.1 hx).2
  have her : z.code.map Ins.er = f.code.map Ins.er := by rw [hz.er, hzk, List.take_length]
  refine ⟨hlt, by simp [h.len], o3, ?_, fun q hq H hH => ?_⟩
  · rw [List.take_succ_eq_append_getElem hlt, List.map_append, List.map_append, h.er, hxe]
    simp only [List.map_cons, List.map_nil, Fn.er, her]
  · rcases List.mem_append.1 hq with hq | hq
    · exact h.deep q hq H (hz.base H hH.r).r
    · rw [List.mem_singleton] at hq
      subst hq
      refine ⟨⟨ownL_rd hz.own (fun _ => rfl) hH.l, ?_, fun x hx => hz.deep x hx H hH.r⟩, ownL_rd o1 (fun _ => rfl) (hz.base H hH.r).l, hin.slen, hin.pa, hin.te, hin.ss⟩
      dsimp only; rw [hz.len, hzk]; exact hin.code.len
/-- A copy, and what is one's own of it. -/
structure Copied (p : Pr) (q : Pr) (B : HL) : Prop where
  er : q.er = p.er
  deep : ∀ H, Holds H B → PrIn H q

set_option maxHeartbeats 16000000 in
theorem rcopy_sp (p : Pr) (w : World) (hp : PrIn (hw w) p) : Sp Tryz.prog 13 [p.val] w [] (fun y : Pr × HL => y.1.val) (fun y => [y.2]) (fun y => Copied p y.1 y.2) := by
  have holen := hp.olen
  have hflen := hp.flen
  refine enter (s := Tryz.sx) [] Tryz.func13 rfl rfl rfl (Eff.refl w) ?_
  repeat' (first | refine g_pv rfl rfl ?_ | refine g_ld 1 rfl rfl rfl rfl rfl rfl ?_ | refine g_nil ?_ | refine gq_then ?_ | refine gc_seq ?_ | refine gc_region ?_ | refine g_box rfl rfl (fun _ => ?_) | refine g_alloc rfl rfl (fun _ => ?_))
  refine g_p (p_build rfl rfl rfl rfl) rfl ?_
  repeat' (first | refine g_pv rfl rfl ?_ | refine g_nil ?_ | refine gq_then ?_ | refine gc_seq ?_ | refine gc_region ?_ | refine gc_block ?_ | refine g_alloc rfl rfl (fun _ => ?_) | refine g_st 0 rfl rfl rfl rfl rfl rfl rfl ?_)
  rename_i b1 b2 b3
  refine gc_loop (Y := CO) (COk p) (fun y => [(1, .pointer (some ⟨b1, 0, none⟩)), (2, .pointer (some ⟨b2, 0, none⟩)), (3, .pointer (some ⟨b3, 0, none⟩)), (4, .int .i64 y.k)])
    (fun y => [[(b3, .cells ⟨[.slice y.ad y.obs.length y.cap, .slice none 0 0, .int .i64 p.main]⟩ 25 (0, 0))], [(b1, .cells ⟨p.cells⟩ 25 (0, 0))], [(b2, .cells ⟨[.slice none 0 0, .slice none 0 0, .int .i64 0]⟩ 25 (0, 0))], y.A, y.B])
    (fun y => p.obs.length - y.k) ⟨0, [], none, 0, [], []⟩ ⟨Nat.zero_le _, rfl, OwnL.nil _ _ _, rfl, fun x hx => by cases hx⟩ ⟨rfl, rfl, rfl, rfl, trivial⟩ (fun w' H => by
      have H' : Hp _ w' [[(b3, .cells ⟨[.slice none 0 0, .slice none 0 0, .int .i64 p.main]⟩ 25 (0, 0))], [(b2, .cells ⟨[.slice none 0 0, .slice none 0 0, .int .i64 0]⟩ 25 (0, 0))], [(b1, .cells ⟨p.cells⟩ 25 (0, 0))]] := H
      exact hp_cnt [] H' (fun a => by simp only [List.length_nil, List.flatten_cons, List.flatten_nil, List.count_append, List.count_cons, List.count_nil, List.append_nil, List.nil_append, List.cons_append]; omega)) ?_
  rintro ⟨k, obs, ad, cap, A, B⟩ hy
  have hyk : k ≤ p.obs.length := hy.le
  have hyl : obs.length = k := hy.len
  dsimp only
  repeat' (first | refine g_pv rfl rfl ?_ | refine g_ld 1 rfl rfl rfl rfl rfl rfl ?_ | refine g_nil ?_ | refine gq_then ?_ | refine gc_seq ?_ | refine gc_region ?_)
  refine gc_condC rfl (fun hc => ?_) (fun hc => ?_)
  · have hlt : k < p.obs.length := by have := of_decide_eq_true hc; omega
    have hx : p.obs[k]? = some (p.obs[k]) := List.getElem?_eq_getElem hlt
    generalize p.obs[k] = o at hx
    have ho := hp.ob o (List.mem_of_getElem? hx)
    have hbl := ho.blen
    have hrl := ho.rlen
    repeat' (first | refine g_pv rfl rfl ?_ | refine g_ld 1 rfl rfl rfl rfl rfl rfl ?_ | refine gq_then ?_ | refine gc_seq ?_ | refine gc_region ?_ | refine gc_block ?_ | refine gc_skip ?_)
    refine g_at (l := p.obs) (f := Ob.cells) (u := o) rfl rfl rfl rfl rfl (Int.natCast_nonneg k) (by omega) (hp.obs.le (old_le0 _ w)) hx rfl rfl rfl rfl (fun a => ?_)
    repeat' (first | refine g_nil ?_ | refine gq_then ?_ | refine gc_seq ?_ | refine gc_region ?_ | refine g_alloc rfl rfl (fun _ => ?_) | refine g_st 0 rfl rfl rfl rfl rfl rfl rfl ?_)
    rename_i b5
    refine g_heap (R' := [[(b5, .cells ⟨o.cells⟩ 66 (0, 0))], [(b3, .cells ⟨[.slice ad obs.length cap, .slice none 0 0, .int .i64 p.main]⟩ 25 (0, 0))], [(b1, .cells ⟨p.cells⟩ 25 (0, 0))], [(b2, .cells ⟨[.slice none 0 0, .slice none 0 0, .int .i64 0]⟩ 25 (0, 0))], A, B]) (fun w H => H) ?_
    refine g_lit0 rfl rfl rfl (fun ge => ?_)
    repeat' (first | refine g_pv rfl rfl ?_ | refine g_ld 1 rfl rfl rfl rfl rfl rfl ?_)
    refine g_appL 0 (l := []) (m := o.bytes) (f := fB) rfl rfl rfl rfl rfl rfl rfl (own_lit0 _ _ _ _) (fun _ => rfl) (fun w' hE => ho.bytes.le (fun b o h => old_le hE b o (old_le0 _ w b o h))) (fun _ => rfl) (by unfold maxLen; simp only [List.length_nil]; omega) (by show (0 + _) * 1 ≤ _; omega) rfl (fun v1 A1 ho1 => ?_)
    have ho1 : OwnL 5 1 fB v1 o.bytes A1 := ho1
    obtain ⟨ad1, cap1, hv1, -⟩ := Own.shape ho1
    subst hv1
    repeat' (first | refine g_pv rfl rfl ?_ | refine g_nil ?_ | refine gq_then ?_ | refine gc_seq ?_ | refine gc_region ?_ | refine g_st 1 rfl rfl rfl rfl rfl rfl rfl ?_)
    refine g_heap (R' := [A1, [(b5, .cells ⟨[.string o.nm, .int .i64 o.size, .int .i64 o.align, .slice ad1 o.bytes.length cap1, .slice o.rA o.rels.length o.rC]⟩ 66 (0, 0))], [(b3, .cells ⟨[.slice ad obs.length cap, .slice none 0 0, .int .i64 p.main]⟩ 25 (0, 0))], [(b1, .cells ⟨p.cells⟩ 25 (0, 0))], [(b2, .cells ⟨[.slice none 0 0, .slice none 0 0, .int .i64 0]⟩ 25 (0, 0))], A, B]) (fun w H => H) ?_
    refine g_lit0 rfl rfl rfl (fun gr => ?_)
    repeat' (first | refine g_pv rfl rfl ?_ | refine g_ld 2 rfl rfl rfl rfl rfl rfl ?_)
    refine g_appL 0 (l := []) (m := o.rels) (f := Rel.cells) rfl rfl rfl rfl rfl rfl rfl (own_lit0 _ _ _ _) (fun _ => rfl) (fun w' hE => ho.rels.le (fun b o h => old_le hE b o (old_le0 _ w b o h))) (fun _ => rfl) (by unfold maxLen; simp only [List.length_nil]; omega) (by show (0 + _) * 24 ≤ _; omega) rfl (fun v2 A2 ho2 => ?_)
    have ho2 : OwnL 78 3 Rel.cells v2 o.rels A2 := ho2
    obtain ⟨ad2, cap2, hv2, -⟩ := Own.shape ho2
    subst hv2
    repeat' (first | refine g_pv rfl rfl ?_ | refine g_ld 2 rfl rfl rfl rfl rfl rfl ?_ | refine g_ld 3 rfl rfl rfl rfl rfl rfl ?_ | refine g_nil ?_ | refine gq_then ?_ | refine gc_region ?_ | refine g_st 2 rfl rfl rfl rfl rfl rfl rfl ?_)
    refine g_app1L 6 (f := Ob.cells) (q := { o with bA := ad1, bC := cap1, rA := ad2, rC := cap2 }) rfl rfl rfl rfl rfl rfl rfl rfl rfl rfl rfl rfl hy.own (by unfold maxLen; dsimp only; omega) (by show (_ + 1) * 80 ≤ _; dsimp only; omega) rfl rfl (fun v3 A3 g3 ho3 => ?_)
    obtain ⟨ad3, cap3, hv3, -⟩ := Own.shape ho3
    subst hv3
    repeat' (first | refine g_pv rfl rfl ?_ | refine g_nil ?_ | refine gq_then ?_ | refine gc_region ?_ | refine gq_block ?_ | refine g_st 3 rfl rfl rfl rfl rfl rfl rfl ?_)
    refine gq_again ⟨k + 1, obs ++ [{ o with bA := ad1, bC := cap1, rA := ad2, rC := cap2 }], ad3, cap3, A3, A2 ++ (A1 ++ B)⟩ (hy.next hx (fun _ _ => trivial) ho ho1 ho2 ho3) (by dsimp only; omega) ⟨rfl, rfl, rfl, inc_eq (by omega), trivial⟩ (fun w' H => by
      have H' : Hp _ w' [A2, A1, [(b5, .cells ⟨[.string o.nm, .int .i64 o.size, .int .i64 o.align, .slice ad1 o.bytes.length cap1, .slice ad2 o.rels.length cap2]⟩ 66 (0, 0))], [(b3, .cells ⟨[.slice ad3 (obs ++ [{ o with bA := ad1, bC := cap1, rA := ad2, rC := cap2 }]).length cap3, .slice none 0 0, .int .i64 p.main]⟩ 25 (0, 0))], [(b1, .cells ⟨p.cells⟩ 25 (0, 0))], [(b2, .cells ⟨[.slice none 0 0, .slice none 0 0, .int .i64 0]⟩ 25 (0, 0))], A3, B] := H
      exact hp_cnt [(b5, .cells ⟨[.string o.nm, .int .i64 o.size, .int .i64 o.align, .slice ad1 o.bytes.length cap1, .slice ad2 o.rels.length cap2]⟩ 66 (0, 0))] H' (fun a => by simp only [List.cons_append, List.nil_append, List.set_cons_zero, List.set_cons_succ, List.flatten_append, List.flatten_cons, List.flatten_nil, List.count_append, List.count_cons, List.count_nil, List.append_nil, List.flatten_replicate_nil]; omega))
  have hko : k = p.obs.length := by have := of_decide_eq_false hc; omega
  subst hko
  clear hc hyk
  repeat' (first | refine g_pv rfl rfl ?_ | refine g_nil ?_ | refine gq_then ?_ | refine gc_seq ?_ | refine gc_region ?_ | refine gc_block ?_ | refine gc_exit ?_ | refine gq_then_exit ?_ | refine gq_block_exit ?_)
  refine gc_loop (Y := CF) (CFk p) (fun y => [(1, .pointer (some ⟨b1, 0, none⟩)), (2, .pointer (some ⟨b2, 0, none⟩)), (3, .pointer (some ⟨b3, 0, none⟩)), (6, .int .i64 y.k)])
    (fun y => [[(b3, .cells ⟨[.slice ad obs.length cap, .slice y.ad y.fns.length y.cap, .int .i64 p.main]⟩ 25 (0, 0))], [(b1, .cells ⟨p.cells⟩ 25 (0, 0))], [(b2, .cells ⟨[.slice none 0 0, .slice none 0 0, .int .i64 0]⟩ 25 (0, 0))], y.A, y.B, A, B])
    (fun y => p.fns.length - y.k) ⟨0, [], none, 0, [], []⟩ ⟨Nat.zero_le _, rfl, OwnL.nil _ _ _, rfl, fun x hx => by cases hx⟩ ⟨rfl, rfl, rfl, rfl, trivial⟩ (fun w' H => by
      have H' : Hp _ w' [[(b3, .cells ⟨[.slice ad obs.length cap, .slice none 0 0, .int .i64 p.main]⟩ 25 (0, 0))], [(b1, .cells ⟨p.cells⟩ 25 (0, 0))], [(b2, .cells ⟨[.slice none 0 0, .slice none 0 0, .int .i64 0]⟩ 25 (0, 0))], A, B] := H
      exact hp_cnt [] H' (fun a => by simp only [List.length_nil, List.flatten_cons, List.flatten_nil, List.count_append, List.count_cons, List.count_nil, List.append_nil, List.nil_append, List.cons_append]; omega)) ?_
  rintro ⟨k, fns, fad, fcap, FA, FB⟩ hz
  have hzk : k ≤ p.fns.length := hz.le
  have hzl : fns.length = k := hz.len
  dsimp only
  repeat' (first | refine g_pv rfl rfl ?_ | refine g_ld 1 rfl rfl rfl rfl rfl rfl ?_ | refine g_nil ?_ | refine gq_then ?_ | refine gc_seq ?_ | refine gc_region ?_)
  refine gc_condC rfl (fun hc => ?_) (fun hc => ?_)
  rotate_left
  · have hkf : k = p.fns.length := by have := of_decide_eq_false hc; omega
    repeat' (first | refine g_ld 0 rfl rfl rfl rfl rfl rfl ?_ | refine g_nil ?_ | refine gq_then ?_ | refine gc_seq ?_ | refine gc_region ?_ | refine gc_exit ?_ | refine gc_ret ?_ | refine gq_then_exit ?_ | refine gq_block_exit ?_ | refine g_st 2 rfl rfl rfl rfl rfl rfl rfl ?_)
    refine gq_retC (.inr rfl) rfl rfl 2 rfl rfl rfl rfl rfl (fun w' H => ⟨(⟨obs, ad, cap, fns, fad, fcap, p.main⟩, A ++ (B ++ (FA ++ FB))), ?_, rfl, ?_⟩)
    · refine ⟨?_, fun H hH => ?_⟩
      · have e1 := hy.er
        have e2 := hz.er
        dsimp only at e1 e2
        rw [List.take_length] at e1
        rw [hkf, List.take_length] at e2
        simp only [Pr.er, e1, e2]
      · have hH : Holds H (A ++ (B ++ (FA ++ FB))) := hH
        refine ⟨ownL_rd hy.own (fun _ => rfl) hH.l, ?_, ownL_rd hz.own (fun _ => rfl) hH.r.r.l, ?_, fun x hx => hy.deep x hx H hH.r.l, fun x hx => hz.deep x hx H hH.r.r.r, hp.main⟩
        · dsimp only; omega
        · dsimp only; omega
    · have H' : Hp _ w' [[(b3, .cells ⟨[.slice ad obs.length cap, .slice fad fns.length fcap, .int .i64 p.main]⟩ 25 (0, 0))], [(b1, .cells ⟨p.cells⟩ 25 (0, 0))], [(b2, .cells ⟨[.slice ad obs.length cap, .slice fad fns.length fcap, .int .i64 p.main]⟩ 25 (0, 0))], FA, FB, A, B] := H
      exact hp_cnt ([(b3, .cells ⟨[.slice ad obs.length cap, .slice fad fns.length fcap, .int .i64 p.main]⟩ 25 (0, 0))] ++ ([(b1, .cells ⟨p.cells⟩ 25 (0, 0))] ++ [(b2, .cells ⟨[.slice ad obs.length cap, .slice fad fns.length fcap, .int .i64 p.main]⟩ 25 (0, 0))])) H' (fun a => by simp only [List.cons_append, List.nil_append, List.set_cons_zero, List.set_cons_succ, List.flatten_append, List.flatten_cons, List.flatten_nil, List.count_append, List.count_cons, List.count_nil, List.append_nil, List.flatten_replicate_nil]; omega)
  have hlt : k < p.fns.length := by have := of_decide_eq_true hc; omega
  have hx : p.fns[k]? = some (p.fns[k]) := List.getElem?_eq_getElem hlt
  generalize p.fns[k] = f at hx
  have hf := hp.fn f (List.mem_of_getElem? hx)
  have hsl := hf.slen
  have hcl := hf.code.len
  repeat' (first | refine g_pv rfl rfl ?_ | refine g_ld 1 rfl rfl rfl rfl rfl rfl ?_ | refine gq_then ?_ | refine gc_seq ?_ | refine gc_region ?_ | refine gc_block ?_ | refine gc_skip ?_)
  refine g_at (l := p.fns) (f := Fn.cells) (u := f) rfl rfl rfl rfl rfl (Int.natCast_nonneg k) (by omega) (hp.fns.le (old_le0 _ w)) hx rfl rfl rfl rfl (fun a => ?_)
  repeat' (first | refine g_nil ?_ | refine gq_then ?_ | refine gc_seq ?_ | refine gc_region ?_ | refine g_alloc rfl rfl (fun _ => ?_) | refine g_st 0 rfl rfl rfl rfl rfl rfl rfl ?_)
  rename_i b7
  refine g_heap (R' := [[(b7, .cells ⟨f.cells⟩ 32 (0, 0))], [(b3, .cells ⟨[.slice ad obs.length cap, .slice fad fns.length fcap, .int .i64 p.main]⟩ 25 (0, 0))], [(b1, .cells ⟨p.cells⟩ 25 (0, 0))], [(b2, .cells ⟨[.slice none 0 0, .slice none 0 0, .int .i64 0]⟩ 25 (0, 0))], FA, FB, A, B]) (fun w H => H) ?_
  refine g_lit0 rfl rfl rfl (fun gs => ?_)
  repeat' (first | refine g_pv rfl rfl ?_ | refine g_ld 1 rfl rfl rfl rfl rfl rfl ?_)
  refine g_appL 0 (l := []) (m := f.slots) (f := Slt.cells) rfl rfl rfl rfl rfl rfl rfl (own_lit0 _ _ _ _) (fun _ => rfl) (fun w' hE => hf.slots.le (fun b o h => old_le hE b o (old_le0 _ w b o h))) (fun _ => rfl) (by unfold maxLen; simp only [List.length_nil]; omega) (by show (0 + _) * 16 ≤ _; omega) rfl (fun v4 A4 ho4 => ?_)
  have ho4 : OwnL 90 2 Slt.cells v4 f.slots A4 := ho4
  obtain ⟨ad4, cap4, hv4, -⟩ := Own.shape ho4
  subst hv4
  repeat' (first | refine g_pv rfl rfl ?_ | refine g_nil ?_ | refine gq_then ?_ | refine gc_seq ?_ | refine gc_region ?_ | refine gc_block ?_ | refine g_st 1 rfl rfl rfl rfl rfl rfl rfl ?_)
  refine gc_loop (Y := CC) (CCk f (A4 ++ FB)) (fun y => [(1, .pointer (some ⟨b1, 0, none⟩)), (2, .pointer (some ⟨b2, 0, none⟩)), (3, .pointer (some ⟨b3, 0, none⟩)), (6, .int .i64 k), (7, .pointer (some ⟨b7, 0, none⟩)), (8, .slice y.ad y.code.length y.cap), (9, .int .i64 y.k)])
    (fun y => [[(b7, .cells ⟨[.string f.nm, .int .i64 f.pa, .int .i64 f.te, .bool f.gi, .slice ad4 f.slots.length cap4, .slice f.cA f.code.length f.cC]⟩ 32 (0, 0))], [(b3, .cells ⟨[.slice ad obs.length cap, .slice fad fns.length fcap, .int .i64 p.main]⟩ 25 (0, 0))], [(b1, .cells ⟨p.cells⟩ 25 (0, 0))], [(b2, .cells ⟨[.slice none 0 0, .slice none 0 0, .int .i64 0]⟩ 25 (0, 0))], y.A, y.B, FA, A, B])
    (fun y => f.code.length - y.k) ⟨0, [], none, 0, [], A4 ++ FB⟩ ⟨Nat.zero_le _, rfl, OwnL.nil _ _ _, rfl, (fun x hx => by cases hx), fun H h => h⟩ ⟨rfl, rfl, rfl, rfl, rfl, rfl, rfl, trivial⟩ (fun w' H => by
      have H' : Hp _ w' [A4, [(b7, .cells ⟨[.string f.nm, .int .i64 f.pa, .int .i64 f.te, .bool f.gi, .slice ad4 f.slots.length cap4, .slice f.cA f.code.length f.cC]⟩ 32 (0, 0))], [(b3, .cells ⟨[.slice ad obs.length cap, .slice fad fns.length fcap, .int .i64 p.main]⟩ 25 (0, 0))], [(b1, .cells ⟨p.cells⟩ 25 (0, 0))], [(b2, .cells ⟨[.slice none 0 0, .slice none 0 0, .int .i64 0]⟩ 25 (0, 0))], FA, FB, A, B] := H
      exact hp_cnt [] H' (fun a => by simp only [List.length_nil, List.flatten_cons, List.flatten_nil, List.count_append, List.count_cons, List.count_nil, List.append_nil, List.nil_append, List.cons_append]; omega)) ?_
  rintro ⟨n, code, cad, ccap, CA, CB⟩ hq
  have hqk : n ≤ f.code.length := hq.le
  have hql : code.length = n := hq.len
  dsimp only
  repeat' (first | refine g_pv rfl rfl ?_ | refine g_ld 0 rfl rfl rfl rfl rfl rfl ?_ | refine g_nil ?_ | refine gq_then ?_ | refine gc_seq ?_ | refine gc_region ?_)
  refine gc_condC rfl (fun hc2 => ?_) (fun hc2 => ?_)
  · have hnlt : n < f.code.length := by have := of_decide_eq_true hc2; omega
    have hxi : f.code[n]? = some (f.code[n]) := List.getElem?_eq_getElem hnlt
    generalize f.code[n] = x at hxi
    have hi := hf.code.all x (List.mem_of_getElem? hxi)
    have hil := hi.len
    repeat' (first | refine g_pv rfl rfl ?_ | refine g_ld 0 rfl rfl rfl rfl rfl rfl ?_ | refine gq_then ?_ | refine gc_seq ?_ | refine gc_region ?_ | refine gc_block ?_ | refine gc_skip ?_)
    refine g_at (l := f.code) (f := Ins.cells) (u := x) rfl rfl rfl rfl rfl (Int.natCast_nonneg n) (by omega) (hf.code.row.le (old_le0 _ w)) hxi rfl rfl rfl rfl (fun a => ?_)
    repeat' (first | refine g_nil ?_ | refine gq_then ?_ | refine gc_seq ?_ | refine gc_region ?_ | refine g_alloc rfl rfl (fun _ => ?_) | refine g_st 0 rfl rfl rfl rfl rfl rfl rfl ?_)
    rename_i b10
    refine g_heap (R' := [[(b10, .cells ⟨x.cells⟩ 43 (0, 0))], [(b7, .cells ⟨[.string f.nm, .int .i64 f.pa, .int .i64 f.te, .bool f.gi, .slice ad4 f.slots.length cap4, .slice f.cA f.code.length f.cC]⟩ 32 (0, 0))], [(b3, .cells ⟨[.slice ad obs.length cap, .slice fad fns.length fcap, .int .i64 p.main]⟩ 25 (0, 0))], [(b1, .cells ⟨p.cells⟩ 25 (0, 0))], [(b2, .cells ⟨[.slice none 0 0, .slice none 0 0, .int .i64 0]⟩ 25 (0, 0))], CA, CB, FA, A, B]) (fun w H => H) ?_
    refine g_lit0 rfl rfl rfl (fun ga => ?_)
    repeat' (first | refine g_pv rfl rfl ?_ | refine g_ld 1 rfl rfl rfl rfl rfl rfl ?_)
    refine g_appL 0 (l := []) (m := x.args) (f := Arg.cells) rfl rfl rfl rfl rfl rfl rfl (own_lit0 _ _ _ _) (fun _ => rfl) (fun w' hE => hi.args.le (fun b o h => old_le hE b o (old_le0 _ w b o h))) (fun _ => rfl) (by unfold maxLen; simp only [List.length_nil]; omega) (by show (0 + _) * 16 ≤ _; omega) rfl (fun v5 A5 ho5 => ?_)
    have ho5 : OwnL 40 2 Arg.cells v5 x.args A5 := ho5
    obtain ⟨ad5, cap5, hv5, -⟩ := Own.shape ho5
    subst hv5
    repeat' (first | refine g_pv rfl rfl ?_ | refine g_ld 1 rfl rfl rfl rfl rfl rfl ?_ | refine g_nil ?_ | refine gq_then ?_ | refine gc_region ?_ | refine g_st 1 rfl rfl rfl rfl rfl rfl rfl ?_)
    refine g_app1L 6 (f := Ins.cells) (q := { x with aA := ad5, aC := cap5 }) rfl rfl rfl rfl rfl rfl rfl rfl rfl rfl rfl rfl hq.own (by unfold maxLen; dsimp only; omega) (by show (_ + 1) * 112 ≤ _; dsimp only; omega) rfl rfl (fun v6 A6 g6 ho6 => ?_)
    obtain ⟨ad6, cap6, hv6, -⟩ := Own.shape ho6
    subst hv6
    repeat' (first | refine g_pv rfl rfl ?_ | refine g_nil ?_ | refine gq_then ?_ | refine gc_region ?_ | refine gq_block ?_)
    refine gq_again ⟨n + 1, code ++ [{ x with aA := ad5, aC := cap5 }], ad6, cap6, A6, A5 ++ CB⟩ (hq.next hxi hi ho5 ho6) (by dsimp only; omega) ⟨rfl, rfl, rfl, rfl, rfl, rfl, inc_eq (by omega), trivial⟩ (fun w' H => by
      have H' : Hp _ w' [A5, [(b10, .cells ⟨[.int .i64 x.op, .int .i64 x.bin, .int .i64 x.d, .int .i64 x.a.k, .int .u32 x.a.n, .int .i64 x.b.k, .int .u32 x.b.n, .int .i64 x.n, .int .i64 x.off, .int .i64 x.width, .bool x.signed, .slice ad5 x.args.length cap5]⟩ 43 (0, 0))], [(b7, .cells ⟨[.string f.nm, .int .i64 f.pa, .int .i64 f.te, .bool f.gi, .slice ad4 f.slots.length cap4, .slice f.cA f.code.length f.cC]⟩ 32 (0, 0))], [(b3, .cells ⟨[.slice ad obs.length cap, .slice fad fns.length fcap, .int .i64 p.main]⟩ 25 (0, 0))], [(b1, .cells ⟨p.cells⟩ 25 (0, 0))], [(b2, .cells ⟨[.slice none 0 0, .slice none 0 0, .int .i64 0]⟩ 25 (0, 0))], A6, CB, FA, A, B] := H
      exact hp_cnt [(b10, .cells ⟨[.int .i64 x.op, .int .i64 x.bin, .int .i64 x.d, .int .i64 x.a.k, .int .u32 x.a.n, .int .i64 x.b.k, .int .u32 x.b.n, .int .i64 x.n, .int .i64 x.off, .int .i64 x.width, .bool x.signed, .slice ad5 x.args.length cap5]⟩ 43 (0, 0))] H' (fun a => by simp only [List.cons_append, List.nil_append, List.set_cons_zero, List.set_cons_succ, List.flatten_append, List.flatten_cons, List.flatten_nil, List.count_append, List.count_cons, List.count_nil, List.append_nil, List.flatten_replicate_nil]; omega))
  have hkn : n = f.code.length := by have := of_decide_eq_false hc2; omega
  repeat' (first | refine g_pv rfl rfl ?_ | refine g_ld 0 rfl rfl rfl rfl rfl rfl ?_ | refine g_ld 1 rfl rfl rfl rfl rfl rfl ?_ | refine g_nil ?_ | refine gq_then ?_ | refine gc_seq ?_ | refine gc_region ?_ | refine gc_exit ?_ | refine gq_then_exit ?_ | refine gq_block_exit ?_ | refine g_st 0 rfl rfl rfl rfl rfl rfl rfl ?_)
  refine g_app1L 6 (f := Fn.cells) (q := { f with sA := ad4, sC := cap4, code := code, cA := cad, cC := ccap }) rfl rfl rfl rfl rfl rfl rfl rfl rfl rfl rfl rfl hz.own (by unfold maxLen; dsimp only; omega) (by show (_ + 1) * 88 ≤ _; dsimp only; omega) rfl rfl (fun v7 A7 g7 ho7 => ?_)
  obtain ⟨ad7, cap7, hv7, -⟩ := Own.shape ho7
  subst hv7
  repeat' (first | refine g_pv rfl rfl ?_ | refine g_nil ?_ | refine gq_then ?_ | refine gc_region ?_ | refine gq_block ?_ | refine g_st 1 rfl rfl rfl rfl rfl rfl rfl ?_)
  refine gq_again ⟨k + 1, fns ++ [{ f with sA := ad4, sC := cap4, code := code, cA := cad, cC := ccap }], ad7, cap7, A7, CA ++ CB⟩ (hz.next hx hf ho4 hq hkn ho7) (by dsimp only; omega) ⟨rfl, rfl, rfl, inc_eq (by omega), trivial⟩ (fun w' H => by
    have H' : Hp _ w' [[(b7, .cells ⟨[.string f.nm, .int .i64 f.pa, .int .i64 f.te, .bool f.gi, .slice ad4 f.slots.length cap4, .slice cad code.length ccap]⟩ 32 (0, 0))], [(b3, .cells ⟨[.slice ad obs.length cap, .slice ad7 (fns ++ [{ f with sA := ad4, sC := cap4, code := code, cA := cad, cC := ccap }]).length cap7, .int .i64 p.main]⟩ 25 (0, 0))], [(b1, .cells ⟨p.cells⟩ 25 (0, 0))], [(b2, .cells ⟨[.slice none 0 0, .slice none 0 0, .int .i64 0]⟩ 25 (0, 0))], CA, CB, A7, A, B] := H
    exact hp_cnt [(b7, .cells ⟨[.string f.nm, .int .i64 f.pa, .int .i64 f.te, .bool f.gi, .slice ad4 f.slots.length cap4, .slice cad code.length ccap]⟩ 32 (0, 0))] H' (fun a => by simp only [List.cons_append, List.nil_append, List.set_cons_zero, List.set_cons_succ, List.flatten_append, List.flatten_cons, List.flatten_nil, List.count_append, List.count_cons, List.count_nil, List.append_nil, List.flatten_replicate_nil]; omega))
end Go.Proofs.YtpohhfggmaihpaaGreatDoor

/- The law TacChecks. -/
namespace Go.Proofs.YtpohhfggmaihpaaGreatDoor
open Go.Wk
set_option linter.unusedVariables false
set_option linter.unusedSimpArgs false
attribute [local irreducible] G GC GQ GA GS Exit.then Exit.inBlock

set_option maxHeartbeats 8000000 in
theorem tacChecks_sp (p : Pr) (w : World) (hp : PrIn (hw w) p) (h10 : Pow10 (hw w)) : Sp Tryz.prog 4 [p.val] w [] (fun _ : Unit => .bool true) (fun _ => []) (fun _ => True) := by
  refine enter (s := Tryz.sx) [] Tryz.func4 rfl rfl rfl (Eff.refl w) ?_
  refine gc_seq ?_
  repeat' (first | refine g_pv rfl rfl ?_ | refine g_nil ?_ | refine gq_then ?_ | refine gc_region ?_ | refine g_box rfl rfl (fun _ => ?_))
  rename_i b1
  refine gc_seq ?_
  repeat' (first | refine g_ld 0 rfl rfl rfl rfl rfl rfl ?_ | refine gc_region ?_)
  refine g_call rfl (Cl.of Tryz.func13 rfl rfl) rfl rfl (fun w' hE => rcopy_sp p w' (hp.le (fun b o h => old_le hE b o (old_le0 _ w b o h)))) rfl ?_
  rintro ⟨q, B⟩ hq
  dsimp only
  repeat' (first | refine g_nil ?_ | refine gq_then ?_ | refine g_alloc rfl rfl (fun _ => ?_) | refine g_st 0 rfl rfl rfl rfl rfl rfl rfl ?_)
  rename_i b3
  have hchk : checkB q = checkB p := checkB_same hq.er
  refine gc_heap (R' := [[(b3, .cells ⟨q.cells⟩ 25 (0, 0))], B, [(b1, .cells ⟨p.cells⟩ 25 (0, 0))]]) (fun w H => H) ?_
  refine gc_seq ?_
  refine gc_draw [[(b3, .cells ⟨q.cells⟩ 25 (0, 0))], B, [(b1, .cells ⟨p.cells⟩ 25 (0, 0))]] [] rfl (List.Perm.of_eq rfl) ?_
  (refine ga_ld 0 0 (by repeat first | exact NoP.sp | apply NoP.then | apply NoP.block) rfl wanted_none rfl rfl rfl rfl rfl rfl (by kernel_rfl) (by kernel_rfl) (by kernel_rfl) ?_); (refine ga_ld 2 2 (by repeat first | exact NoP.sp | apply NoP.then | apply NoP.block) rfl wanted_none rfl rfl rfl rfl rfl rfl (by kernel_rfl) (by kernel_rfl) (by kernel_rfl) ?_)
  refine ga_one (i := 1) (by kernel_rfl) (gs_of rfl (fun K hK => ?_))
  refine g_call rfl (Cl.of Tryz.func8 rfl rfl) rfl rfl (fun w' hE => check_sp q w' (hq.deep _ (fun b o hb => hp_in hE 1 rfl b o hb))) rfl ?_
  rintro _ rfl
  refine g_nil ?_
  refine hK _ _ ⟨[], List.Perm.of_eq rfl⟩ ?_
  refine ga_one (i := 3) (by kernel_rfl) (gs_of rfl (fun K hK => ?_))
  refine g_call rfl (Cl.of Tryz.func14 rfl rfl) rfl rfl (fun w' hE => rcheck_sp p w' (hp.le (fun b o h => old_le hE b o (old_le0 _ w b o h)))) rfl ?_
  rintro _ rfl
  refine g_nil ?_
  refine hK _ _ ⟨[], List.Perm.of_eq rfl⟩ ?_
  (refine ga_p 4 (by repeat first | exact NoP.sp | apply NoP.then | apply NoP.block) rfl (pv_spec rfl) rfl (by kernel_rfl) (by kernel_rfl) (by kernel_rfl) ?_); (refine ga_p 5 (by repeat first | exact NoP.sp | apply NoP.then | apply NoP.block) rfl (pv_spec rfl) rfl (by kernel_rfl) (by kernel_rfl) (by kernel_rfl) ?_)
  refine ga_eq 11 (u' := .bool true) rfl (by rw [hchk, beq_self_eq_true]) ?_
  (refine ga_ld 6 0 (by repeat first | exact NoP.sp | apply NoP.then | apply NoP.block) rfl (wanted_yes rfl rfl rfl) rfl rfl rfl rfl rfl rfl (by kernel_rfl) (by kernel_rfl) (by kernel_rfl) ?_); (refine ga_ld 7 2 (by repeat first | exact NoP.sp | apply NoP.then | apply NoP.block) rfl (wanted_yes rfl rfl rfl) rfl rfl rfl rfl rfl rfl (by kernel_rfl) (by kernel_rfl) (by kernel_rfl) ?_)
  refine ga_one (i := 8) (by kernel_rfl) (gs_of rfl (fun K hK => ?_))
  refine g_yes rfl rfl rfl ?_
  refine g_call rfl (Cl.of Tryz.func15 rfl rfl) rfl rfl (fun w' hE => rprog_sp q p w' hq.er (hq.deep _ (fun b o hb => hp_in hE 1 rfl b o hb)) (hp.le (fun b o h => old_le hE b o (old_le0 _ w b o h)))) rfl ?_
  rintro _ rfl
  refine g_nil ?_
  refine hK _ _ ⟨[], List.Perm.of_eq rfl⟩ ?_
  (refine ga_p 9 (by repeat first | exact NoP.sp | apply NoP.then | apply NoP.block) rfl (pv_spec rfl) rfl (by kernel_rfl) (by kernel_rfl) (by kernel_rfl) ?_); (refine ga_p 10 (by repeat first | exact NoP.sp | apply NoP.then | apply NoP.block) rfl (pv_spec rfl) rfl (by kernel_rfl) (by kernel_rfl) (by kernel_rfl) ?_)
  refine ga_one (i := 11) (by kernel_rfl) (gs_of rfl (fun K hK => ?_))
  refine g_yes rfl rfl rfl ?_
  refine g_call rfl (Cl.of Tryz.func9 rfl rfl) rfl rfl (fun w' hE => heads13_sp w' (h10.le (fun b o h => old_le hE b o (old_le0 _ w b o h)))) rfl (fun _ _ => ?_)
  refine g_nil ?_
  refine hK _ _ ⟨[], List.Perm.of_eq rfl⟩ ?_
  (refine ga_p 12 (by repeat first | exact NoP.sp | apply NoP.then | apply NoP.block) rfl (pv_spec rfl) rfl (by kernel_rfl) (by kernel_rfl) (by kernel_rfl) ?_); (refine ga_p 13 (by repeat first | exact NoP.sp | apply NoP.then | apply NoP.block) rfl (pv_spec rfl) rfl (by kernel_rfl) (by kernel_rfl) (by kernel_rfl) ?_)
  refine ga_nil (by kernel_rfl) ?_
  repeat' (first | refine gq_then ?_ | refine gc_ret ?_)
  exact gq_ret1 (.inr rfl) rfl rfl rfl (fun w' H => ⟨(), trivial, rfl, hp_nil H⟩)
end Go.Proofs.YtpohhfggmaihpaaGreatDoor

/- TacChecks: PROVED FOR EVERY INPUT: the call returns true, and its argument reads as it read; over worlds whose listed tables read as the program lays them. -/
namespace Go.Proofs.YtpohhfggmaihpaaGreatDoor
open Go.Wk Go.ChangeShapes Go.WideShapes Go.ChangeAt Go.RowKit
set_option linter.unusedVariables false
set_option maxRecDepth 100000

theorem tacChecks_contract (H : Type) (enc : TypeId × Value → H) (W : World) (base : Nat) (args : Array Value) (ds gs : List (DataW H)) (before : List MemPlace)
    (hval : ∀ (j : Nat) t v, Tryz.f4.params[j]? = some t → args[j]? = some v → Value.okWide Tryz.prog W .any base t v)
    (hW : DataW.Whole enc Tryz.prog Tryz.f4.params.toList Rows.tacChecksSpec.vars false W args.toList ds gs before)
    (hsz : (DataW.weightsEach Tryz.prog (Tryz.f4.params.toList ++ Rows.tacChecksSpec.plain.varTypes Tryz.prog) (ds ++ gs)).all (· ≤ reachBytes) = true) (hL : laidMetH Tryz.prog laid13 W) :
    Calls Tryz.prog 4 args W fun e W' => ∃ v, e = .returned v ∧ Rows.tacChecksSpec.post enc Tryz.prog Tryz.f4 false true false false W args v W' := by
  have hW' := hW
  obtain ⟨p, q, hA0, hV, rfl, hfz, hnd⟩ := hW
  have hA : DataW.TrodAll enc Tryz.prog W 0 (fun _ => true) true Tryz.f4.params.toList args.toList ds p := hA0
  rw [Tryz.params4] at hA hval hsz
  obtain ⟨v0, d0, rfl, rfl, h0⟩ := trodAll_one hA
  obtain ⟨rfl, rfl⟩ := trodVars_none hV
  have hws : ∀ n ∈ d0.weights Tryz.prog 25, n ≤ reachBytes := fun n hn => by
    have := List.all_eq_true.1 hsz n (DataW.weights_mem_each (j := 0) rfl rfl n hn)
    simpa using this
  obtain ⟨pr, rfl, hc⟩ := prog_read (hval 0 25 _ rfl rfl) h0 hws
  clear hA0 hval hA hsz
  simp only [List.append_nil] at hW'
  refine (tacChecks_sp pr W hc (pow10_of hL)).mono fun e W' ⟨_, _, he, hE⟩ => ?_
  subst he
  have hB := eff_below hE
  have hlt : ∀ x ∈ p, x.block < W.heap.size := fun x hx => by simpa using hW'.lt x hx
  refine ⟨_, rfl, _, _, _, [], p, [], hW', ?_, ?_, ?_, hB.frame _, fun h => by cases h⟩
  · exact trodAll_mk1 (shut_bool Tryz.underlying4 _)
  · exact trodAll_mk1 (prog_again h0 hB hlt)
  · exact rfl

theorem tacChecks_reads (os : Os) {H : Type} (enc : TypeId × Value → H) : ∃ places, DataW.whole enc Tryz.prog ((World.laidAll Tryz.prog os laid13).forCall (fun _ _ => 0) ⟨#[], #[.agg #[.slice none 0 0, .slice none 0 0, .int .i64 0]], []⟩).memory Tryz.f4.params.toList Rows.tacChecksSpec.vars false #[Value.agg #[.slice none 0 0, .slice none 0 0, .int .i64 0]].toList 8 = some ([.agg [.nil, .nil, .lit (.int .i64 0)]], [], places) :=
  ⟨[], by kernel_rfl⟩
theorem tacChecks_lifted (os : Os) (started : os.Started) (H : Type) (enc : TypeId × Value → H) (F : Stop.Interp) :
    ReturnsInHanded {} Tryz.checked os 4 .any ((OpenSpec.ofChange Rows.tacChecksSpec).preRow enc Tryz.prog Tryz.f4 Rows.tacChecksRow.domain false Rows.tacChecksRow.laid) (((OpenSpec.ofChange Rows.tacChecksSpec).at F).post enc Tryz.prog Tryz.f4 false true false false) := by
  obtain ⟨places, hx⟩ := tacChecks_reads os enc
  refine returnsInHanded_of_row (C := Tryz.checked) (s := OpenSpec.ofChange Rows.tacChecksSpec) own_knob started (by kernel_rfl) Tryz.func4
    (witness_row_atRef (enc := enc) (C := Tryz.checked) false (World.laidAll Tryz.prog os laid13) #[.agg #[.slice none 0 0, .slice none 0 0, .int .i64 0]] (World.laidAll_os _ _ _) (by kernel_rfl) (by kernel_rfl) (by kernel_rfl)
      (OpenSpec.preRow_of_cond 8 hx (by kernel_rfl) (fun k hk => by cases hk) (by kernel_rfl) (laid13_met os _))) ?_
  intro W base args ds gs before hval hW _ _ hsz hL _ _
  exact tacChecks_contract H enc W base args ds gs before hval hW hsz hL
end Go.Proofs.YtpohhfggmaihpaaGreatDoor
