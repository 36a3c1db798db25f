/-
  The document's Same of bytes, Func, Prog: true of what differs in addresses alone.
  tac's Parse; the law TacBack.
  TacBack: PROVED FOR EVERY INPUT: the call returns true, and its argument reads as it read; over worlds whose listed tables read as the program lays them.
-/
import Derived.Test.YtpohhfggmaihpaaGreatDoorZ15
import Derived.Test.YtpohhfggmaihpaaGreatDoorZ17
import Derived.Test.YtpohhfggmaihpaaGreatDoorZ11
import Derived.Test.YtpohhfggmaihpaaGreatDoorZ16
import Derived.Test.YtpohhfggmaihpaaGreatDoorZ8
import Derived.Shelf.Vars

/- The document's Same of bytes, Func, Prog: true of what differs in addresses alone. -/
namespace Go.Proofs.YtpohhfggmaihpaaGreatDoor
open Go.Wk
set_option linter.unusedVariables false
set_option linter.unusedSimpArgs false
attribute [local irreducible] G GC GQ GA GS Exit.then Exit.inBlock

theorem neT_self (a : ByteArray) : (a.toList != a.toList) = false := by simp
theorem neI_self (a : Int) : (a != a) = false := by simp
theorem rsameb_sp (l l' : List Int) (A A' : Option Addr) (c c' : Nat) (w : World) (h : l' = l) (hr : Rd (hw w) fB 1 A l) (hr' : Rd (hw w) fB 1 A' l') (hl : l.length ≤ 140737488355328) :
    Sp Tryz.prog 33 [.slice A l.length c, .slice A' l'.length c'] w [] (fun b : Bool => .bool b) (fun _ => []) (fun b => b = true) := by
  subst h
  refine enter (s := Tryz.sx) [] Tryz.func33 rfl rfl rfl (Eff.refl w) ?_
  repeat' (first | refine g_pv rfl rfl ?_ | refine g_nil ?_ | refine gq_then ?_ | refine gc_seq ?_ | refine gc_region ?_)
  refine gc_eq 10 (u' := .bool false) rfl (by congr 1; exact neI_self _) ?_
  repeat' (first | refine g_pv rfl rfl ?_ | refine g_nil ?_ | refine gq_then ?_ | refine gc_seq ?_ | refine gc_region ?_ | refine gc_block ?_ | refine gc_cond_f rfl ?_ | refine gc_skip ?_)
  refine gc_loop (Y := Nat) (fun k => k ≤ l'.length) (fun k => [(0, .slice A l'.length c), (1, .slice A' l'.length c'), (5, .int .i64 k)]) (fun k => [])
    (fun k => l'.length - k) 0 (Nat.zero_le _) ⟨rfl, rfl, rfl, trivial⟩ (fun w' H => H) ?_
  rintro k hk
  dsimp only at hk ⊢
  repeat' (first | refine g_pv rfl rfl ?_ | refine g_nil ?_ | refine gq_then ?_ | refine gc_seq ?_ | refine gc_region ?_)
  refine gc_condC rfl (fun hc => ?_) (fun hc => ?_)
  rotate_left
  · repeat' (first | refine g_pv rfl rfl ?_ | refine g_nil ?_ | refine gq_then ?_ | refine gc_seq ?_ | refine gc_region ?_ | refine gc_exit ?_ | refine gc_ret ?_ | refine gq_then_exit ?_ | refine gq_block_exit ?_)
    exact gq_ret1 (.inr rfl) rfl rfl rfl (fun w' H => ⟨true, rfl, rfl, hp_nil H⟩)
  have hlt : k < l'.length := by have := of_decide_eq_true hc; omega
  have hx1 : l'[k]? = some (l'[k]) := List.getElem?_eq_getElem hlt
  generalize l'[k] = a at hx1
  repeat' (first | refine gq_then ?_ | refine gc_seq ?_ | refine gc_block ?_ | refine gc_skip ?_)
  refine gc_draw [] [] rfl (List.Perm.of_eq rfl) ?_
  (refine aP 0 rfl rfl ?_); (refine aP 1 rfl rfl ?_)
  refine ga_at 2 3 (l := l') (f := fB) (u := a) (by repeat first | exact NoP.sp | apply NoP.then | apply NoP.block) rfl wanted_none rfl (fun a _ => wanted_none a) rfl rfl rfl rfl rfl (Int.natCast_nonneg k) (by omega) (still_rdO (hr.le (old_le0 _ w))) hx1 rfl rfl rfl rfl (by kernel_rfl) (by kernel_rfl) (by kernel_rfl) (by kernel_rfl) (by kernel_rfl) (fun _ => ?_)
  (refine aP 4 rfl rfl ?_); (refine aP 5 rfl rfl ?_)
  refine ga_at 6 7 (l := l') (f := fB) (u := a) (by repeat first | exact NoP.sp | apply NoP.then | apply NoP.block) rfl wanted_none rfl (fun a _ => wanted_none a) rfl rfl rfl rfl rfl (Int.natCast_nonneg k) (by omega) (still_rdO (hr'.le (old_le0 _ w))) hx1 rfl rfl rfl rfl (by kernel_rfl) (by kernel_rfl) (by kernel_rfl) (by kernel_rfl) (by kernel_rfl) (fun _ => ?_)
  (refine aP 8 rfl rfl ?_)
  refine ga_eq 25 (u' := .bool false) rfl (by congr 1; exact neI_self _) ?_
  refine ga_nil (by kernel_rfl) ?_
  repeat' (first | refine g_pv rfl rfl ?_ | refine g_nil ?_ | refine gq_then ?_ | refine gc_region ?_ | refine gc_cond_f rfl ?_ | refine gc_skip ?_ | refine gq_block ?_)
  exact gq_again (k + 1) hlt (by omega) ⟨rfl, rfl, inc_eq (by omega), trivial⟩ (fun w' H => H)
theorem alikeB_refl (x : Ins) : alikeB x x = true := by simp [alikeB]
theorem sameB_er {x y : Ins} (h : x.er = y.er) : sameB x y = true := by
  have e1 : x.args = y.args := by have := congrArg Ins.args h; exact this
  have e2 : alikeB x y = alikeB x.er y.er := rfl
  unfold sameB
  rw [e1, argsEq_refl, e2, h, alikeB_refl]; rfl
theorem er_at {α : Type} {e : α → α} {l m : List α} (h : l.map e = m.map e) {k : Nat} (hk : k < l.length) : ∃ x y, l[k]? = some x ∧ m[k]? = some y ∧ e x = e y := by
  have hl : l.length = m.length := by have := congrArg List.length h; simpa using this
  have hk2 : k < m.length := by omega
  refine ⟨l[k], m[k], List.getElem?_eq_getElem hk, List.getElem?_eq_getElem hk2, ?_⟩
  have h1 := congrArg (fun q => q[k]?) h
  simp only [List.getElem?_map, List.getElem?_eq_getElem hk, List.getElem?_eq_getElem hk2, Option.map_some, Option.some.injEq] at h1
  exact h1
set_option maxHeartbeats 8000000 in
theorem rfunc_sp (f g : Fn) (w : World) (h : f.er = g.er) (hf : FnIn (hw w) f) (hg : FnIn (hw w) g) :
    Sp Tryz.prog 34 [f.val, g.val] w [] (fun b : Bool => .bool b) (fun _ => []) (fun b => b = true) := by
  have hnm : f.nm = g.nm := by have := congrArg Fn.nm h; exact this
  have hpa : f.pa = g.pa := by have := congrArg Fn.pa h; exact this
  have hte : f.te = g.te := by have := congrArg Fn.te h; exact this
  have hgi : f.gi = g.gi := by have := congrArg Fn.gi h; exact this
  have hsl : f.slots = g.slots := by have := congrArg Fn.slots h; exact this
  have hcode : f.code.map Ins.er = g.code.map Ins.er := by have := congrArg Fn.code h; exact this
  have hcl : f.code.length = g.code.length := by have := congrArg List.length hcode; simpa using this
  have hslen := hf.slen
  have hclen := hf.code.len
  refine enter (s := Tryz.sx) [] Tryz.func34 rfl rfl rfl (Eff.refl w) ?_
  repeat' (first | refine g_pv rfl rfl ?_ | refine g_ld 0 rfl rfl rfl rfl rfl rfl ?_ | refine g_ld 1 rfl rfl rfl rfl rfl rfl ?_ | refine g_nil ?_ | refine gq_then ?_ | refine gc_seq ?_ | refine gc_region ?_ | refine g_box rfl rfl (fun _ => ?_))
  rename_i b2 b3
  refine g_p (p_neT rfl rfl rfl) rfl ?_
  repeat' (refine g_pv rfl rfl ?_)
  refine g_eq 12 (u' := .bool false) rfl (by rw [hnm, neT_self]) ?_
  repeat' (first | refine g_pv rfl rfl ?_ | refine g_ld 0 rfl rfl rfl rfl rfl rfl ?_ | refine g_ld 1 rfl rfl rfl rfl rfl rfl ?_ | refine g_yes rfl rfl rfl ?_)
  refine g_eq 19 (u' := .bool false) rfl (by rw [hpa, neI_self]) ?_
  repeat' (first | refine g_pv rfl rfl ?_ | refine g_ld 0 rfl rfl rfl rfl rfl rfl ?_ | refine g_ld 1 rfl rfl rfl rfl rfl rfl ?_ | refine g_yes rfl rfl rfl ?_)
  refine g_eq 26 (u' := .bool false) rfl (by rw [hte, neI_self]) ?_
  repeat' (first | refine g_pv rfl rfl ?_ | refine g_ld 0 rfl rfl rfl rfl rfl rfl ?_ | refine g_ld 1 rfl rfl rfl rfl rfl rfl ?_ | refine g_yes rfl rfl rfl ?_)
  refine g_p (p_neB rfl rfl rfl) rfl ?_
  repeat' (refine g_pv rfl rfl ?_)
  refine g_eq 33 (u' := .bool false) rfl (by rw [hgi]; cases g.gi <;> rfl) ?_
  repeat' (first | refine g_pv rfl rfl ?_ | refine g_ld 0 rfl rfl rfl rfl rfl rfl ?_ | refine g_ld 1 rfl rfl rfl rfl rfl rfl ?_ | refine g_yes rfl rfl rfl ?_)
  refine g_eq 42 (u' := .bool false) rfl (by rw [hsl, neI_self]) ?_
  repeat' (first | refine g_pv rfl rfl ?_ | refine g_ld 0 rfl rfl rfl rfl rfl rfl ?_ | refine g_ld 1 rfl rfl rfl rfl rfl rfl ?_ | refine g_nil ?_ | refine gq_then ?_ | refine g_yes rfl rfl rfl ?_)
  refine gc_eq 50 (u' := .bool false) rfl (by rw [hcl, neI_self]) ?_
  refine gc_heap (R' := [[(b3, .cells ⟨g.cells⟩ 32 (0, 0))], [(b2, .cells ⟨f.cells⟩ 32 (0, 0))]]) (fun w H => H) ?_
  repeat' (first | refine g_pv rfl rfl ?_ | refine g_nil ?_ | refine gq_then ?_ | refine gc_seq ?_ | refine gc_region ?_ | refine gc_block ?_ | refine gc_cond_f rfl ?_ | refine gc_skip ?_)
  refine gc_loop (Y := Nat) (fun k => k ≤ f.slots.length) (fun k => [(2, .pointer (some ⟨b2, 0, none⟩)), (3, .pointer (some ⟨b3, 0, none⟩)), (5, .int .i64 k)]) (fun k => [[(b3, .cells ⟨g.cells⟩ 32 (0, 0))], [(b2, .cells ⟨f.cells⟩ 32 (0, 0))]])
    (fun k => f.slots.length - k) 0 (Nat.zero_le _) ⟨rfl, rfl, rfl, trivial⟩ (fun w' H => H) ?_
  rintro k hk
  dsimp only at hk ⊢
  repeat' (first | refine g_pv rfl rfl ?_ | refine g_ld 1 rfl rfl rfl rfl rfl rfl ?_ | refine g_nil ?_ | refine gq_then ?_ | refine gc_seq ?_ | refine gc_region ?_)
  refine gc_condC rfl (fun hc => ?_) (fun hc => ?_)
  · have hlt : k < f.slots.length := by have := of_decide_eq_true hc; omega
    have hx1 : f.slots[k]? = some (f.slots[k]) := List.getElem?_eq_getElem hlt
    generalize f.slots[k] = a at hx1
    have hx2 : g.slots[k]? = some a := by rw [← hsl]; exact hx1
    have hlt2 : k < g.slots.length := by rw [← hsl]; exact hlt
    repeat' (first | refine gq_then ?_ | refine gc_seq ?_ | refine gc_block ?_ | refine gc_skip ?_)
    refine gc_draw [[(b3, .cells ⟨g.cells⟩ 32 (0, 0))], [(b2, .cells ⟨f.cells⟩ 32 (0, 0))]] [] rfl (List.Perm.of_eq rfl) ?_
    (refine aP 0 rfl rfl ?_); (refine aL 1 1 rfl wanted_none rfl rfl rfl rfl rfl ?_); (refine aP 2 rfl rfl ?_)
    refine ga_at 3 4 (l := f.slots) (f := Slt.cells) (u := a) (by repeat first | exact NoP.sp | apply NoP.then | apply NoP.block) rfl wanted_none rfl (fun a _ => wanted_none a) rfl rfl rfl rfl rfl (Int.natCast_nonneg k) (by omega) (still_rdO (hf.slots.le (old_le0 _ w))) hx1 rfl rfl rfl rfl (by kernel_rfl) (by kernel_rfl) (by kernel_rfl) (by kernel_rfl) (by kernel_rfl) (fun _ => ?_)
    (refine aP 5 rfl rfl ?_); (refine aL 6 0 rfl wanted_none rfl rfl rfl rfl rfl ?_); (refine aP 7 rfl rfl ?_)
    refine ga_at 8 9 (l := g.slots) (f := Slt.cells) (u := a) (by repeat first | exact NoP.sp | apply NoP.then | apply NoP.block) rfl wanted_none rfl (fun a _ => wanted_none a) rfl rfl rfl rfl rfl (Int.natCast_nonneg k) (by omega) (still_rdO (hg.slots.le (old_le0 _ w))) hx2 rfl rfl rfl rfl (by kernel_rfl) (by kernel_rfl) (by kernel_rfl) (by kernel_rfl) (by kernel_rfl) (fun _ => ?_)
    refine aQ 10 rfl (p_neA rfl rfl rfl rfl rfl (by kernel_rfl)) ?_
    refine ga_eq 68 (u' := .bool false) rfl (by simp) ?_
    refine ga_nil (by kernel_rfl) ?_
    repeat' (first | refine g_pv rfl rfl ?_ | refine g_nil ?_ | refine gq_then ?_ | refine gc_region ?_ | refine gc_cond_f rfl ?_ | refine gc_skip ?_ | refine gq_block ?_)
    exact gq_again (k + 1) hlt (by omega) ⟨rfl, rfl, inc_eq (by omega), trivial⟩ (fun w' H => H)
  repeat' (first | refine g_pv rfl rfl ?_ | refine g_nil ?_ | refine gq_then ?_ | refine gc_seq ?_ | refine gc_region ?_ | refine gc_block ?_ | refine gc_exit ?_ | refine gq_then_exit ?_ | refine gq_block_exit ?_)
  refine gc_loop (Y := Nat) (fun k => k ≤ f.code.length) (fun k => [(2, .pointer (some ⟨b2, 0, none⟩)), (3, .pointer (some ⟨b3, 0, none⟩)), (6, .int .i64 k)]) (fun k => [[(b3, .cells ⟨g.cells⟩ 32 (0, 0))], [(b2, .cells ⟨f.cells⟩ 32 (0, 0))]])
    (fun k => f.code.length - k) 0 (Nat.zero_le _) ⟨rfl, rfl, rfl, trivial⟩ (fun w' H => H) ?_
  rintro k hk
  dsimp only at hk ⊢
  repeat' (first | refine g_pv rfl rfl ?_ | refine g_ld 1 rfl rfl rfl rfl rfl rfl ?_ | refine g_nil ?_ | refine gq_then ?_ | refine gc_seq ?_ | refine gc_region ?_)
  refine gc_condC rfl (fun hc => ?_) (fun hc => ?_)
  · have hlt : k < f.code.length := by have := of_decide_eq_true hc; omega
    obtain ⟨x, y, hx1, hx2, hxy⟩ := er_at hcode hlt
    have hxm := hf.code.all x (List.mem_of_getElem? hx1)
    have hym := hg.code.all y (List.mem_of_getElem? hx2)
    repeat' (first | refine gq_then ?_ | refine gc_seq ?_ | refine gc_block ?_ | refine gc_skip ?_)
    refine gc_draw [[(b3, .cells ⟨g.cells⟩ 32 (0, 0))], [(b2, .cells ⟨f.cells⟩ 32 (0, 0))]] [] rfl (List.Perm.of_eq rfl) ?_
    (refine aP 0 rfl rfl ?_); (refine aL 1 1 rfl wanted_none rfl rfl rfl rfl rfl ?_); (refine aP 2 rfl rfl ?_)
    refine ga_at 3 4 (l := f.code) (f := Ins.cells) (u := x) (by repeat first | exact NoP.sp | apply NoP.then | apply NoP.block) rfl wanted_none rfl (fun a _ => wanted_none a) rfl rfl rfl rfl rfl (Int.natCast_nonneg k) (by omega) (still_rdO (hf.code.row.le (old_le0 _ w))) hx1 rfl rfl rfl rfl (by kernel_rfl) (by kernel_rfl) (by kernel_rfl) (by kernel_rfl) (by kernel_rfl) (fun _ => ?_)
    (refine aP 5 rfl rfl ?_); (refine aL 6 0 rfl wanted_none rfl rfl rfl rfl rfl ?_); (refine aP 7 rfl rfl ?_)
    refine ga_at 8 9 (l := g.code) (f := Ins.cells) (u := y) (by repeat first | exact NoP.sp | apply NoP.then | apply NoP.block) rfl wanted_none rfl (fun a _ => wanted_none a) rfl rfl rfl rfl rfl (Int.natCast_nonneg k) (by omega) (still_rdO (hg.code.row.le (old_le0 _ w))) hx2 rfl rfl rfl rfl (by kernel_rfl) (by kernel_rfl) (by kernel_rfl) (by kernel_rfl) (by kernel_rfl) (fun _ => ?_)
    refine aO 10 rfl (fun K hK => ?_)
    refine g_call rfl (Cl.of Tryz.func55 rfl rfl) rfl rfl (fun w' hE => rSame_sp x y w' (hxm.args.le (fun b o h => old_le hE b o (old_le0 _ w b o h))) (hym.args.le (fun b o h => old_le hE b o (old_le0 _ w b o h))) hxm.len) rfl ?_
    rintro b hb
    rw [sameB_er hxy] at hb
    subst hb
    refine g_nil ?_
    refine hK _ _ ⟨[], List.Perm.of_eq rfl⟩ ?_
    (refine aP 11 rfl rfl ?_)
    refine ga_nil (by kernel_rfl) ?_
    repeat' (first | refine g_pv rfl rfl ?_ | refine g_nil ?_ | refine gq_then ?_ | refine gc_region ?_ | refine gc_cond_f rfl ?_ | refine gc_skip ?_ | refine gq_block ?_)
    exact gq_again (k + 1) hlt (by omega) ⟨rfl, rfl, inc_eq (by omega), trivial⟩ (fun w' H => H)
  repeat' (first | refine g_pv rfl rfl ?_ | refine g_nil ?_ | refine gq_then ?_ | refine gc_seq ?_ | refine gc_region ?_ | refine gc_exit ?_ | refine gc_ret ?_ | refine gq_then_exit ?_ | refine gq_block_exit ?_)
  exact gq_ret1 (.inr rfl) rfl rfl rfl (fun w' H => ⟨true, rfl, rfl, hp_nil H⟩)
set_option maxHeartbeats 16000000 in
theorem rprog_sp (p q : Pr) (w : World) (h : p.er = q.er) (hp : PrIn (hw w) p) (hq : PrIn (hw w) q) :
    Sp Tryz.prog 15 [p.val, q.val] w [] (fun b : Bool => .bool b) (fun _ => []) (fun b => b = true) := by
  have hmn : p.main = q.main := by have := congrArg Pr.main h; exact this
  have hob : p.obs.map Ob.er = q.obs.map Ob.er := by have := congrArg Pr.obs h; exact this
  have hfn : p.fns.map Fn.er = q.fns.map Fn.er := by have := congrArg Pr.fns h; exact this
  have hol : p.obs.length = q.obs.length := by have := congrArg List.length hob; simpa using this
  have hfl : p.fns.length = q.fns.length := by have := congrArg List.length hfn; simpa using this
  have holen := hp.olen
  have hflen := hp.flen
  refine enter (s := Tryz.sx) [] Tryz.func15 rfl rfl rfl (Eff.refl w) ?_
  repeat' (first | refine g_pv rfl rfl ?_ | refine g_ld 0 rfl rfl rfl rfl rfl rfl ?_ | refine g_ld 1 rfl rfl rfl rfl rfl rfl ?_ | refine g_nil ?_ | refine gq_then ?_ | refine gc_seq ?_ | refine gc_region ?_ | refine g_box rfl rfl (fun _ => ?_))
  rename_i b2 b3
  refine g_eq 15 (u' := .bool false) rfl (by rw [hmn, neI_self]) ?_
  repeat' (first | refine g_pv rfl rfl ?_ | refine g_ld 0 rfl rfl rfl rfl rfl rfl ?_ | refine g_ld 1 rfl rfl rfl rfl rfl rfl ?_ | refine g_yes rfl rfl rfl ?_)
  refine g_eq 24 (u' := .bool false) rfl (by rw [hol, neI_self]) ?_
  repeat' (first | refine g_pv rfl rfl ?_ | refine g_ld 0 rfl rfl rfl rfl rfl rfl ?_ | refine g_ld 1 rfl rfl rfl rfl rfl rfl ?_ | refine g_nil ?_ | refine gq_then ?_ | refine g_yes rfl rfl rfl ?_)
  refine gc_eq 32 (u' := .bool false) rfl (by rw [hfl, neI_self]) ?_
  refine gc_heap (R' := [[(b3, .cells ⟨q.cells⟩ 25 (0, 0))], [(b2, .cells ⟨p.cells⟩ 25 (0, 0))]]) (fun w H => H) ?_
  repeat' (first | refine g_pv rfl rfl ?_ | refine g_nil ?_ | refine gq_then ?_ | refine gc_seq ?_ | refine gc_region ?_ | refine gc_block ?_ | refine gc_cond_f rfl ?_ | refine gc_skip ?_)
  refine gc_loop (Y := Nat) (fun k => k ≤ p.obs.length) (fun k => [(2, .pointer (some ⟨b2, 0, none⟩)), (3, .pointer (some ⟨b3, 0, none⟩)), (5, .int .i64 k)]) (fun k => [[(b3, .cells ⟨q.cells⟩ 25 (0, 0))], [(b2, .cells ⟨p.cells⟩ 25 (0, 0))]])
    (fun k => p.obs.length - k) 0 (Nat.zero_le _) ⟨rfl, rfl, rfl, trivial⟩ (fun w' H => H) ?_
  rintro k hk
  dsimp only at hk ⊢
  refine gc_seq ?_
  repeat' (fail)
  refine gc_seq ?_
  repeat' (first | refine g_pv rfl rfl ?_ | refine g_ld 1 rfl rfl rfl rfl rfl rfl ?_ | refine g_nil ?_ | refine gq_then ?_ | refine gc_region ?_)
  refine gc_condC rfl (fun hc => ?_) (fun hc => ?_)
  · have hlt : k < p.obs.length := by have := of_decide_eq_true hc; omega
    obtain ⟨x, y, hx1, hx2, hxy⟩ := er_at hob hlt
    have hxm := hp.ob x (List.mem_of_getElem? hx1)
    have hym := hq.ob y (List.mem_of_getElem? hx2)
    have xnm : x.nm = y.nm := by have := congrArg Ob.nm hxy; exact this
    have xsz : x.size = y.size := by have := congrArg Ob.size hxy; exact this
    have xal : x.align = y.align := by have := congrArg Ob.align hxy; exact this
    have xby : x.bytes = y.bytes := by have := congrArg Ob.bytes hxy; exact this
    have xre : x.rels = y.rels := by have := congrArg Ob.rels hxy; exact this
    have hrl := hxm.rlen
    repeat' (first | refine gq_then ?_ | refine gc_skip ?_)
    refine gc_seq ?_
    repeat' (refine gc_block ?_)
    refine gc_cut (Y := Nat × Nat) (fun _ => True) (fun y => [(2, .pointer (some ⟨b2, 0, none⟩)), (3, .pointer (some ⟨b3, 0, none⟩)), (5, .int .i64 k), (6, .pointer (some ⟨y.1, 0, none⟩)), (7, .pointer (some ⟨y.2, 0, none⟩))])
      (fun g => [[(g.1, .cells ⟨x.cells⟩ 66 (0, 0))], [(g.2, .cells ⟨y.cells⟩ 66 (0, 0))], [(b3, .cells ⟨q.cells⟩ 25 (0, 0))], [(b2, .cells ⟨p.cells⟩ 25 (0, 0))]]) ?_ ?_
    · refine gc_draw [[(b3, .cells ⟨q.cells⟩ 25 (0, 0))], [(b2, .cells ⟨p.cells⟩ 25 (0, 0))]] [] rfl (List.Perm.of_eq rfl) ?_
      (refine aP 0 rfl rfl ?_); (refine aL 1 1 rfl wanted_none rfl rfl rfl rfl rfl ?_); (refine aP 2 rfl rfl ?_)
      refine ga_at 3 4 (l := p.obs) (f := Ob.cells) (u := x) (by repeat first | exact NoP.sp | apply NoP.then | apply NoP.block) rfl wanted_none rfl (fun a _ => wanted_none a) rfl rfl rfl rfl rfl (Int.natCast_nonneg k) (by omega) (still_rdO (hp.obs.le (old_le0 _ w))) hx1 rfl rfl rfl rfl (by kernel_rfl) (by kernel_rfl) (by kernel_rfl) (by kernel_rfl) (by kernel_rfl) (fun _ => ?_)
      (refine aP 5 rfl rfl ?_); (refine aL 6 0 rfl wanted_none rfl rfl rfl rfl rfl ?_); (refine aP 7 rfl rfl ?_)
      refine ga_at 8 9 (l := q.obs) (f := Ob.cells) (u := y) (by repeat first | exact NoP.sp | apply NoP.then | apply NoP.block) rfl wanted_none rfl (fun a _ => wanted_none a) rfl rfl rfl rfl rfl (Int.natCast_nonneg k) (by omega) (still_rdO (hq.obs.le (old_le0 _ w))) hx2 rfl rfl rfl rfl (by kernel_rfl) (by kernel_rfl) (by kernel_rfl) (by kernel_rfl) (by kernel_rfl) (fun _ => ?_)
      refine ga_two (i := 10) (j := 11) (by kernel_rfl) (gs_of rfl (fun K hK => ?_)) (gs_of rfl (fun K hK => ?_))
      · -- 10
        refine g_alloc rfl rfl (fun g6 => ?_)
        refine g_heap (R' := [[(g6, .cells ⟨[.string ⟨#[]⟩, .int .i64 0, .int .i64 0, .slice none 0 0, .slice none 0 0]⟩ 66 (0, 0))], [(b3, .cells ⟨q.cells⟩ 25 (0, 0))], [(b2, .cells ⟨p.cells⟩ 25 (0, 0))]]) (fun w H => H) ?_
        refine g_nil ?_
        refine hK _ _ ⟨[_], List.perm_append_comm⟩ ?_
        refine aO 11 rfl (fun K hK => ?_)
        refine g_alloc rfl rfl (fun g7 => ?_)
        refine g_heap (R' := [[(g7, .cells ⟨[.string ⟨#[]⟩, .int .i64 0, .int .i64 0, .slice none 0 0, .slice none 0 0]⟩ 66 (0, 0))], [(g6, .cells ⟨[.string ⟨#[]⟩, .int .i64 0, .int .i64 0, .slice none 0 0, .slice none 0 0]⟩ 66 (0, 0))], [(b3, .cells ⟨q.cells⟩ 25 (0, 0))], [(b2, .cells ⟨p.cells⟩ 25 (0, 0))]]) (fun w H => H) ?_
        refine g_nil ?_
        refine hK _ _ ⟨[_, _], List.perm_append_comm⟩ ?_
        refine aO 12 rfl (fun K hK => ?_)
        refine g_st 1 rfl rfl rfl rfl rfl rfl rfl ?_
        refine g_heap (R' := [[(g7, .cells ⟨[.string ⟨#[]⟩, .int .i64 0, .int .i64 0, .slice none 0 0, .slice none 0 0]⟩ 66 (0, 0))], [(g6, .cells ⟨x.cells⟩ 66 (0, 0))], [(b3, .cells ⟨q.cells⟩ 25 (0, 0))], [(b2, .cells ⟨p.cells⟩ 25 (0, 0))]]) (fun w H => H) ?_
        refine g_nil ?_
        refine hK _ _ ⟨[_, _], List.perm_append_comm⟩ ?_
        refine aO 13 rfl (fun K hK => ?_)
        refine g_st 0 rfl rfl rfl rfl rfl rfl rfl ?_
        refine g_heap (R' := [[(g7, .cells ⟨y.cells⟩ 66 (0, 0))], [(g6, .cells ⟨x.cells⟩ 66 (0, 0))], [(b3, .cells ⟨q.cells⟩ 25 (0, 0))], [(b2, .cells ⟨p.cells⟩ 25 (0, 0))]]) (fun w H => H) ?_
        refine g_nil ?_
        refine hK _ _ ⟨[_, _], List.perm_append_comm⟩ ?_
        refine ga_nil (by kernel_rfl) ?_
        exact gq_at (g6, g7) trivial ⟨rfl, rfl, rfl, rfl, rfl, trivial⟩ (fun w' H => hp_permL H (List.Perm.swap _ _ _))
      · -- 11
        refine g_alloc rfl rfl (fun g7 => ?_)
        refine g_heap (R' := [[(g7, .cells ⟨[.string ⟨#[]⟩, .int .i64 0, .int .i64 0, .slice none 0 0, .slice none 0 0]⟩ 66 (0, 0))], [(b3, .cells ⟨q.cells⟩ 25 (0, 0))], [(b2, .cells ⟨p.cells⟩ 25 (0, 0))]]) (fun w H => H) ?_
        refine g_nil ?_
        refine hK _ _ ⟨[_], List.perm_append_comm⟩ ?_
        refine aO 10 rfl (fun K hK => ?_)
        refine g_alloc rfl rfl (fun g6 => ?_)
        refine g_heap (R' := [[(g6, .cells ⟨[.string ⟨#[]⟩, .int .i64 0, .int .i64 0, .slice none 0 0, .slice none 0 0]⟩ 66 (0, 0))], [(g7, .cells ⟨[.string ⟨#[]⟩, .int .i64 0, .int .i64 0, .slice none 0 0, .slice none 0 0]⟩ 66 (0, 0))], [(b3, .cells ⟨q.cells⟩ 25 (0, 0))], [(b2, .cells ⟨p.cells⟩ 25 (0, 0))]]) (fun w H => H) ?_
        refine g_nil ?_
        refine hK _ _ ⟨[_, _], List.perm_append_comm⟩ ?_
        refine aO 12 rfl (fun K hK => ?_)
        refine g_st 0 rfl rfl rfl rfl rfl rfl rfl ?_
        refine g_heap (R' := [[(g6, .cells ⟨x.cells⟩ 66 (0, 0))], [(g7, .cells ⟨[.string ⟨#[]⟩, .int .i64 0, .int .i64 0, .slice none 0 0, .slice none 0 0]⟩ 66 (0, 0))], [(b3, .cells ⟨q.cells⟩ 25 (0, 0))], [(b2, .cells ⟨p.cells⟩ 25 (0, 0))]]) (fun w H => H) ?_
        refine g_nil ?_
        refine hK _ _ ⟨[_, _], List.perm_append_comm⟩ ?_
        refine aO 13 rfl (fun K hK => ?_)
        refine g_st 1 rfl rfl rfl rfl rfl rfl rfl ?_
        refine g_heap (R' := [[(g6, .cells ⟨x.cells⟩ 66 (0, 0))], [(g7, .cells ⟨y.cells⟩ 66 (0, 0))], [(b3, .cells ⟨q.cells⟩ 25 (0, 0))], [(b2, .cells ⟨p.cells⟩ 25 (0, 0))]]) (fun w H => H) ?_
        refine g_nil ?_
        refine hK _ _ ⟨[_, _], List.perm_append_comm⟩ ?_
        refine ga_nil (by kernel_rfl) ?_
        exact gq_at (g6, g7) trivial ⟨rfl, rfl, rfl, rfl, rfl, trivial⟩ (fun w' H => H)
    rintro ⟨g6, g7⟩ -
    try dsimp only
    repeat' (first | refine g_pv rfl rfl ?_ | refine g_ld 0 rfl rfl rfl rfl rfl rfl ?_ | refine g_ld 1 rfl rfl rfl rfl rfl rfl ?_ | refine gc_seq ?_ | refine gc_region ?_)
    refine g_p (p_neT rfl rfl rfl) rfl ?_
    repeat' (refine g_pv rfl rfl ?_)
    refine g_eq 55 (u' := .bool false) rfl (by rw [xnm, neT_self]) ?_
    repeat' (first | refine g_pv rfl rfl ?_ | refine g_ld 0 rfl rfl rfl rfl rfl rfl ?_ | refine g_ld 1 rfl rfl rfl rfl rfl rfl ?_ | refine g_yes rfl rfl rfl ?_)
    refine g_eq 62 (u' := .bool false) rfl (by rw [xsz, neI_self]) ?_
    repeat' (first | refine g_pv rfl rfl ?_ | refine g_ld 0 rfl rfl rfl rfl rfl rfl ?_ | refine g_ld 1 rfl rfl rfl rfl rfl rfl ?_ | refine g_yes rfl rfl rfl ?_)
    refine g_eq 69 (u' := .bool false) rfl (by rw [xal, neI_self]) ?_
    repeat' (first | refine g_pv rfl rfl ?_ | refine g_ld 0 rfl rfl rfl rfl rfl rfl ?_ | refine g_ld 1 rfl rfl rfl rfl rfl rfl ?_ | refine g_yes rfl rfl rfl ?_)
    refine g_call rfl (Cl.of Tryz.func33 rfl rfl) rfl rfl (fun w' hE => rsameb_sp x.bytes y.bytes x.bA y.bA x.bC y.bC w' xby.symm (hxm.bytes.le (fun b o h => old_le hE b o (old_le0 _ w b o h))) (hym.bytes.le (fun b o h => old_le hE b o (old_le0 _ w b o h))) hxm.blen) rfl ?_
    rintro b rfl
    repeat' (first | refine g_pv rfl rfl ?_ | refine g_ld 0 rfl rfl rfl rfl rfl rfl ?_ | refine g_ld 1 rfl rfl rfl rfl rfl rfl ?_ | refine g_nil ?_ | refine gq_then ?_ | refine g_yes rfl rfl rfl ?_)
    refine gc_eq 89 (u' := .bool false) rfl (by rw [xre, neI_self]) ?_
    repeat' (first | refine g_pv rfl rfl ?_ | refine g_nil ?_ | refine gq_then ?_ | refine gc_seq ?_ | refine gc_region ?_ | refine gc_block ?_ | refine gc_cond_f rfl ?_ | refine gc_skip ?_)
    refine gc_loop (Y := Nat) (fun m => m ≤ x.rels.length) (fun m => [(2, .pointer (some ⟨b2, 0, none⟩)), (3, .pointer (some ⟨b3, 0, none⟩)), (5, .int .i64 k), (6, .pointer (some ⟨g6, 0, none⟩)), (7, .pointer (some ⟨g7, 0, none⟩)), (8, .int .i64 m)]) (fun m => [[(g6, .cells ⟨x.cells⟩ 66 (0, 0))], [(g7, .cells ⟨y.cells⟩ 66 (0, 0))], [(b3, .cells ⟨q.cells⟩ 25 (0, 0))], [(b2, .cells ⟨p.cells⟩ 25 (0, 0))]])
      (fun m => x.rels.length - m) 0 (Nat.zero_le _) ⟨rfl, rfl, rfl, rfl, rfl, rfl, trivial⟩ (fun w' H => H) ?_
    rintro m hm
    try dsimp only at hm ⊢
    repeat' (first | refine g_pv rfl rfl ?_ | refine g_ld 0 rfl rfl rfl rfl rfl rfl ?_ | refine g_nil ?_ | refine gq_then ?_ | refine gc_seq ?_ | refine gc_region ?_)
    refine gc_condC rfl (fun hc2 => ?_) (fun hc2 => ?_)
    · have hmlt : m < x.rels.length := by have := of_decide_eq_true hc2; omega
      have hy1 : x.rels[m]? = some (x.rels[m]) := List.getElem?_eq_getElem hmlt
      generalize x.rels[m] = a at hy1
      have hy2 : y.rels[m]? = some a := by rw [← xre]; exact hy1
      have hmlt2 : m < y.rels.length := by rw [← xre]; exact hmlt
      repeat' (first | refine gq_then ?_ | refine gc_seq ?_ | refine gc_block ?_ | refine gc_skip ?_)
      refine gc_draw [[(g6, .cells ⟨x.cells⟩ 66 (0, 0))], [(g7, .cells ⟨y.cells⟩ 66 (0, 0))], [(b3, .cells ⟨q.cells⟩ 25 (0, 0))], [(b2, .cells ⟨p.cells⟩ 25 (0, 0))]] [] rfl (List.Perm.of_eq rfl) ?_
      (refine aP 0 rfl rfl ?_); (refine aP 1 rfl rfl ?_); (refine aL 2 0 rfl wanted_none rfl rfl rfl rfl rfl ?_); (refine aP 3 rfl rfl ?_)
      refine ga_at 4 5 (l := x.rels) (f := Rel.cells) (u := a) (by repeat first | exact NoP.sp | apply NoP.then | apply NoP.block) rfl wanted_none rfl (fun a _ => wanted_none a) rfl rfl rfl rfl rfl (Int.natCast_nonneg m) (by omega) (still_rdO (hxm.rels.le (old_le0 _ w))) hy1 rfl rfl rfl rfl (by kernel_rfl) (by kernel_rfl) (by kernel_rfl) (by kernel_rfl) (by kernel_rfl) (fun _ => ?_)
      (refine aP 6 rfl rfl ?_); (refine aP 7 rfl rfl ?_); (refine aL 8 1 rfl wanted_none rfl rfl rfl rfl rfl ?_); (refine aP 9 rfl rfl ?_)
      refine ga_at 10 11 (l := y.rels) (f := Rel.cells) (u := a) (by repeat first | exact NoP.sp | apply NoP.then | apply NoP.block) rfl wanted_none rfl (fun a _ => wanted_none a) rfl rfl rfl rfl rfl (Int.natCast_nonneg m) (by omega) (still_rdO (hym.rels.le (old_le0 _ w))) hy2 rfl rfl rfl rfl (by kernel_rfl) (by kernel_rfl) (by kernel_rfl) (by kernel_rfl) (by kernel_rfl) (fun _ => ?_)
      refine aQ 12 rfl (p_neA3 rfl rfl rfl rfl rfl rfl (by kernel_rfl)) ?_
      refine ga_eq 110 (u' := .bool false) rfl (by simp) ?_
      refine ga_nil (by kernel_rfl) ?_
      repeat' (first | refine g_pv rfl rfl ?_ | refine g_nil ?_ | refine gq_then ?_ | refine gc_region ?_ | refine gc_cond_f rfl ?_ | refine gc_skip ?_ | refine gq_block ?_)
      exact gq_again (m + 1) hmlt (by omega) ⟨rfl, rfl, rfl, rfl, rfl, inc_eq (by omega), trivial⟩ (fun w' H => H)
    repeat' (first | refine g_pv rfl rfl ?_ | refine g_nil ?_ | refine gq_then ?_ | refine gc_region ?_ | refine gc_exit ?_ | refine gq_then_exit ?_ | refine gq_block ?_ | refine gq_block_exit ?_)
    exact gq_again (k + 1) hlt (by omega) ⟨rfl, rfl, inc_eq (by omega), trivial⟩ (fun w' H => hp_drop 0 (hp_drop 0 H))
  repeat' (first | refine g_pv rfl rfl ?_ | refine g_nil ?_ | refine gq_then ?_ | refine gc_seq ?_ | refine gc_region ?_ | refine gc_block ?_ | refine gc_exit ?_ | refine gq_then_exit ?_ | refine gq_block_exit ?_)
  refine gc_loop (Y := Nat) (fun k => k ≤ p.fns.length) (fun k => [(2, .pointer (some ⟨b2, 0, none⟩)), (3, .pointer (some ⟨b3, 0, none⟩)), (9, .int .i64 k)]) (fun k => [[(b3, .cells ⟨q.cells⟩ 25 (0, 0))], [(b2, .cells ⟨p.cells⟩ 25 (0, 0))]])
    (fun k => p.fns.length - k) 0 (Nat.zero_le _) ⟨rfl, rfl, rfl, trivial⟩ (fun w' H => H) ?_
  rintro k hk
  dsimp only at hk ⊢
  repeat' (first | refine g_pv rfl rfl ?_ | refine g_ld 1 rfl rfl rfl rfl rfl rfl ?_ | refine g_nil ?_ | refine gq_then ?_ | refine gc_seq ?_ | refine gc_region ?_)
  refine gc_condC rfl (fun hc => ?_) (fun hc => ?_)
  · have hlt : k < p.fns.length := by have := of_decide_eq_true hc; omega
    obtain ⟨x, y, hx1, hx2, hxy⟩ := er_at hfn hlt
    have hxm := hp.fn x (List.mem_of_getElem? hx1)
    have hym := hq.fn y (List.mem_of_getElem? hx2)
    repeat' (first | refine gq_then ?_ | refine gc_seq ?_ | refine gc_block ?_ | refine gc_skip ?_)
    refine gc_draw [[(b3, .cells ⟨q.cells⟩ 25 (0, 0))], [(b2, .cells ⟨p.cells⟩ 25 (0, 0))]] [] rfl (List.Perm.of_eq rfl) ?_
    (refine aP 0 rfl rfl ?_); (refine aL 1 1 rfl wanted_none rfl rfl rfl rfl rfl ?_); (refine aP 2 rfl rfl ?_)
    refine ga_at 3 4 (l := p.fns) (f := Fn.cells) (u := x) (by repeat first | exact NoP.sp | apply NoP.then | apply NoP.block) rfl wanted_none rfl (fun a _ => wanted_none a) rfl rfl rfl rfl rfl (Int.natCast_nonneg k) (by omega) (still_rdO (hp.fns.le (old_le0 _ w))) hx1 rfl rfl rfl rfl (by kernel_rfl) (by kernel_rfl) (by kernel_rfl) (by kernel_rfl) (by kernel_rfl) (fun _ => ?_)
    (refine aP 5 rfl rfl ?_); (refine aL 6 0 rfl wanted_none rfl rfl rfl rfl rfl ?_); (refine aP 7 rfl rfl ?_)
    refine ga_at 8 9 (l := q.fns) (f := Fn.cells) (u := y) (by repeat first | exact NoP.sp | apply NoP.then | apply NoP.block) rfl wanted_none rfl (fun a _ => wanted_none a) rfl rfl rfl rfl rfl (Int.natCast_nonneg k) (by omega) (still_rdO (hq.fns.le (old_le0 _ w))) hx2 rfl rfl rfl rfl (by kernel_rfl) (by kernel_rfl) (by kernel_rfl) (by kernel_rfl) (by kernel_rfl) (fun _ => ?_)
    refine aO 10 rfl (fun K hK => ?_)
    refine g_call rfl (Cl.of Tryz.func34 rfl rfl) rfl rfl (fun w' hE => rfunc_sp x y w' hxy (hxm.le (fun b o h => old_le hE b o (old_le0 _ w b o h))) (hym.le (fun b o h => old_le hE b o (old_le0 _ w b o h)))) rfl ?_
    rintro b rfl
    refine g_nil ?_
    refine hK _ _ ⟨[], List.Perm.of_eq rfl⟩ ?_
    (refine aP 11 rfl rfl ?_)
    refine ga_nil (by kernel_rfl) ?_
    repeat' (first | refine g_pv rfl rfl ?_ | refine g_nil ?_ | refine gq_then ?_ | refine gc_region ?_ | refine gc_cond_f rfl ?_ | refine gc_skip ?_ | refine gq_block ?_)
    exact gq_again (k + 1) hlt (by omega) ⟨rfl, rfl, inc_eq (by omega), trivial⟩ (fun w' H => H)
  repeat' (first | refine g_pv rfl rfl ?_ | refine g_nil ?_ | refine gq_then ?_ | refine gc_seq ?_ | refine gc_region ?_ | refine gc_exit ?_ | refine gc_ret ?_ | refine gq_then_exit ?_ | refine gq_block_exit ?_)
  exact gq_ret1 (.inr rfl) rfl rfl rfl (fun w' H => ⟨true, rfl, rfl, hp_nil H⟩)
end Go.Proofs.YtpohhfggmaihpaaGreatDoor

/- tac's Parse; the law TacBack. -/
namespace Go.Proofs.YtpohhfggmaihpaaGreatDoor
open Go.Wk
set_option linter.unusedVariables false
set_option linter.unusedSimpArgs false
attribute [local irreducible] G GC GQ GA GS Exit.then Exit.inBlock

theorem prW_er (p : Pr) : prW p.er = prW p := by
  unfold prW
  have e1 : p.er.obs.flatMap obW = p.obs.flatMap obW := by
    show (p.obs.map Ob.er).flatMap obW = _
    rw [List.flatMap_map]; rfl
  have e2 : p.er.fns.flatMap fnW = p.fns.flatMap fnW := by
    show (p.fns.map Fn.er).flatMap fnW = _
    rw [List.flatMap_map]
    refine flatMap_eq (fun f _ => ?_)
    show [fn0W f] ++ f.slots.map slotW ++ (f.code.map Ins.er).map insW = _
    rw [List.map_map]; rfl
  rw [e1, e2]; rfl
theorem prW_same {p q : Pr} (h : q.er = p.er) : prW q = prW p := by rw [← prW_er q, h, prW_er]
theorem printB_same {p q : Pr} (h : q.er = p.er) : printB q = printB p := by unfold printB; rw [prW_same h, checkB_same h]
theorem mem_er {α : Type} {e : α → α} {l m : List α} (h : l.map e = m.map e) {x : α} (hx : x ∈ l) : ∃ y ∈ m, e y = e x := by
  have : e x ∈ m.map e := by rw [← h]; exact List.mem_map.2 ⟨x, hx, rfl⟩
  obtain ⟨y, hy, he⟩ := List.mem_map.1 this
  exact ⟨y, hy, he⟩
/-- What was read, as memory holds it. -/
theorem prin_of {H0 H : Nat → Option Obj} {p : Pr} {y : RS} (hp : PrIn H0 p) (he : y.pr.er = p.er) (hy : y.ok) (hH : Hd H y.rest.flatten) : PrIn H y.pr := by
  have hob : y.pr.obs.map Ob.er = p.obs.map Ob.er := congrArg Pr.obs he
  have hfn : y.pr.fns.map Fn.er = p.fns.map Fn.er := congrArg Pr.fns he
  have hmn : y.pr.main = p.main := (congrArg Pr.main he :)
  have hol := congrArg List.length hob
  have hfl := congrArg List.length hfn
  rw [List.length_map, List.length_map] at hol hfl
  have hH' : Hd H (y.Ao ++ (y.Af ++ (y.Bb ++ (y.Br ++ (y.Bs ++ (y.Bc ++ y.E)))))) := by simpa [RS.rest] using hH
  have hB : Bd y.pr y.Ao y.Af y.Bb y.Br y.Bs y.Bc y.E := hy
  have hE := hH'.r.r.r.r.r.r
  have h1 : Hd H (y.Bb ++ (y.Br ++ y.E)) := fun b o h => by
    rcases List.mem_append.1 h with h | h
    · exact hH'.r.r.l b o h
    · rcases List.mem_append.1 h with h | h
      · exact hH'.r.r.r.l b o h
      · exact hE b o h
  have h2 : Hd H (y.Bs ++ (y.Bc ++ y.E)) := hH'.r.r.r.r
  refine ⟨ownL_rdH hB.o (fun _ => rfl) hH'.l, by rw [hol]; exact hp.olen, ownL_rdH hB.f (fun _ => rfl) hH'.r.l, by rw [hfl]; exact hp.flen, fun o ho => ?_, fun f hf => ?_, by rw [hmn]; exact hp.main⟩
  · obtain ⟨o', ho', e⟩ := mem_er hob ho
    have hi := hp.ob o' ho'
    obtain ⟨k1, k2, k3⟩ := hB.oAll o ho H h1
    have eb : o'.bytes = o.bytes := (congrArg Ob.bytes e :)
    have er : o'.rels = o.rels := (congrArg Ob.rels e :)
    have es : o'.size = o.size := (congrArg Ob.size e :)
    have ea : o'.align = o.align := (congrArg Ob.align e :)
    exact ⟨k1, by rw [← eb]; exact hi.blen, by rw [← eb]; exact hi.bs, k2, by rw [← er]; exact hi.rlen, by rw [← er]; exact hi.rs, by rw [← es]; exact hi.size, by rw [← ea]; exact hi.align, k3⟩
  · obtain ⟨f', hf', e⟩ := mem_er hfn hf
    have hi := hp.fn f' hf'
    obtain ⟨k1, k2, k3⟩ := hB.fAll f hf H h2
    have es : f'.slots = f.slots := (congrArg Fn.slots e :)
    have ec : f'.code.map Ins.er = f.code.map Ins.er := congrArg Fn.code e
    have ep : f'.pa = f.pa := (congrArg Fn.pa e :)
    have et : f'.te = f.te := (congrArg Fn.te e :)
    have hcl := congrArg List.length ec
    rw [List.length_map, List.length_map] at hcl
    refine ⟨⟨k2, by rw [← hcl]; exact hi.code.len, fun x hx => ?_⟩, k1, by rw [← es]; exact hi.slen, by rw [← ep]; exact hi.pa, by rw [← et]; exact hi.te, by rw [← es]; exact hi.ss⟩
    obtain ⟨x', hx', ex⟩ := mem_er ec.symm hx
    have hxi := hi.code.all x' hx'
    have a1 : x'.args = x.args := (congrArg Ins.args ex :)
    have a2 : x'.a = x.a := (congrArg Ins.a ex :)
    have a3 : x'.b = x.b := (congrArg Ins.b ex :)
    have a4 : x'.op = x.op := (congrArg Ins.op ex :)
    have a5 : x'.d = x.d := (congrArg Ins.d ex :)
    have a6 : x'.n = x.n := (congrArg Ins.n ex :)
    exact ⟨k3 x hx, by rw [← a1]; exact hxi.len, by rw [← a1, ← a2, ← a3]; exact hxi.ok, by rw [← a4]; exact hxi.op, by rw [← a5]; exact hxi.d, by rw [← a6]; exact hxi.n⟩
theorem hd_rest {X : Cx} {w : World} {y : RS} {A B : RL} (H : Hp X w (A ++ (y.rest ++ B))) : Hd (hw w) y.rest.flatten := fun b o h => H.holds b o (by
  rw [List.flatten_append, List.flatten_append]
  exact List.mem_append_right _ (List.mem_append_left _ h))
set_option maxHeartbeats 4000000 in
theorem parse_sp (p : Pr) (H0 : Nat → Option Obj) (w : World) (hp : PrIn H0 p) (hc : checkB p = true) (ht : (txt (prW p)).length ≤ 1048576) (hm : M0 (hw w)) (h20 : Pow20 (hw w)) :
    Sp Tryz.prog 22 [.string (mkB (txt (prW p)))] w [] (fun y : RS => .tuple #[y.pr.val, .int .i64 0]) (fun y => y.rest) (fun y => y.ok ∧ y.pr.er = p.er) := by
  obtain ⟨hr, hb⟩ := check_read hp hc
  refine enter (s := Tryz.sx) [] Tryz.func22 rfl rfl rfl (Eff.refl w) ?_
  repeat' (first | refine g_pv rfl rfl ?_ | refine g_nil ?_ | refine gq_then ?_ | refine gc_seq ?_ | refine gc_region ?_ | refine g_alloc rfl rfl (fun _ => ?_))
  rename_i b2
  refine gc_eq 10 (u' := .bool false) rfl (congrArg Value.bool (decide_eq_false (by rw [mkB_size]; omega))) ?_
  repeat' (first | refine g_pv rfl rfl ?_ | refine gq_then ?_ | refine gc_seq ?_ | refine gc_region ?_ | refine gc_cond_f rfl ?_ | refine gc_skip ?_)
  refine g_call rfl (Cl.of Tryz.func42 rfl rfl) rfl rfl (fun w' hE => by
    have h := read_sp (prL p) w' hr (by rw [prL_words]; exact ht) (hm.le (fun b o h => old_le hE b o (old_le0 _ w b o h)))
    rw [prL_words] at h
    exact h) rfl ?_
  rintro y ⟨hy, he⟩
  rw [rd_all p hb] at he
  have hpr : printB y.pr = (txt (prW p), 0) := by
    rw [printB_same he]; unfold printB
    rw [if_pos hc, if_neg (by omega)]
  dsimp only
  repeat' (first | refine g_pv rfl rfl ?_ | refine g_ld 0 rfl rfl rfl rfl rfl rfl ?_ | refine g_nil ?_ | refine gq_then ?_ | refine gc_seq ?_ | refine gc_region ?_ | refine gc_cond_f rfl ?_ | refine gc_skip ?_ | refine g_alloc rfl rfl (fun _ => ?_) | refine g_st 0 rfl rfl rfl rfl rfl rfl rfl ?_)
  rename_i b4
  refine g_call rfl (Cl.of Tryz.func20 rfl rfl) rfl rfl (fun w' hE => print_sp y.pr w' (prin_of hp he hy (hd_rest (A := [[(b4, .cells ⟨y.pr.cells⟩ 25 (0, 0))]]) (B := [[(b2, .cells ⟨[.slice none 0 0, .slice none 0 0, .int .i64 0]⟩ 25 (0, 0))]]) hE)) (h20.le (fun b o h => old_le hE b o (old_le0 _ w b o h)))) rfl ?_
  rintro ⟨s1, e1⟩ h1
  rw [hpr, Prod.mk.injEq] at h1
  obtain ⟨h1, rfl⟩ := h1
  obtain rfl : s1 = mkB (txt (prW p)) := mkB_of h1
  dsimp only
  repeat' (first | refine g_pv rfl rfl ?_ | refine g_nil ?_ | refine gq_then ?_ | refine gc_seq ?_ | refine gc_region ?_ | refine g_yes rfl rfl rfl ?_)
  refine g_p (p_neT rfl rfl rfl) rfl ?_
  refine g_eq 30 (u' := .bool false) rfl (by simp) ?_
  repeat' (first | refine g_pv rfl rfl ?_ | refine g_ld 0 rfl rfl rfl rfl rfl rfl ?_ | refine g_nil ?_ | refine gq_then ?_ | refine gc_seq ?_ | refine gc_region ?_ | refine gc_cond_f rfl ?_ | refine gc_skip ?_)
  refine g_st 8 rfl rfl rfl rfl rfl rfl rfl ?_
  repeat' (first | refine g_pv rfl rfl ?_ | refine g_nil ?_ | refine gq_then ?_ | refine gc_ret ?_)
  refine gq_retCT (.inr rfl) rfl rfl 8 rfl rfl rfl rfl rfl rfl (fun w' H => ⟨y, ⟨hy, he⟩, rfl, (by have h3 := hp_fst (R := y.rest) (S := [[(b2, .cells ⟨y.pr.cells⟩ 25 (0, 0))]]) (hp_tail (A := [(b4, .cells ⟨y.pr.cells⟩ 25 (0, 0))]) H); exact h3)⟩)
set_option maxHeartbeats 4000000 in
theorem tacBack_sp (p : Pr) (w : World) (hp : PrIn (hw w) p) (hm : M0 (hw w)) (h20 : Pow20 (hw w)) : Sp Tryz.prog 7 [p.val] w [] (fun _ : Unit => .bool true) (fun _ => []) (fun _ => True) := by
  refine enter (s := Tryz.sx) [] Tryz.func7 rfl rfl rfl (Eff.refl w) ?_
  refine gc_seq ?_
  repeat' (first | refine g_pv rfl rfl ?_ | refine g_nil ?_ | refine gq_then ?_ | refine gc_region ?_ | refine g_box rfl rfl (fun _ => ?_))
  rename_i b1
  repeat' (first | refine g_ld 0 rfl rfl rfl rfl rfl rfl ?_ | refine gc_seq ?_ | refine gc_region ?_)
  refine g_call rfl (Cl.of Tryz.func20 rfl rfl) rfl rfl (fun w' hE => print_sp p w' (hp.le (fun b o h => old_le hE b o (old_le0 _ w b o h))) (h20.le (fun b o h => old_le hE b o (old_le0 _ w b o h)))) rfl ?_
  rintro ⟨s1, e1⟩ h1
  dsimp only at h1 ⊢
  have key : (s1 = ⟨#[]⟩ ∧ e1 ≠ 0) ∨ (checkB p = true ∧ (txt (prW p)).length ≤ 1048576 ∧ s1 = mkB (txt (prW p)) ∧ e1 = 0) := by
    unfold printB at h1
    split at h1
    · rename_i hc
      split at h1
      · rw [Prod.mk.injEq] at h1
        exact .inl ⟨mkB_of h1.1, by rw [h1.2]; decide⟩
      · rw [Prod.mk.injEq] at h1
        exact .inr ⟨hc, by omega, mkB_of h1.1, h1.2⟩
    · rw [Prod.mk.injEq] at h1
      exact .inl ⟨mkB_of h1.1, by rw [h1.2]; decide⟩
  rcases key with ⟨rfl, hne⟩ | ⟨hc, ht, rfl, rfl⟩
  · repeat' (first | refine g_pv rfl rfl ?_ | refine g_nil ?_ | refine gq_then ?_ | refine gc_seq ?_ | refine gc_region ?_)
    refine gc_eq 13 (u' := .bool true) rfl (by simp [hne]) ?_
    repeat' (first | refine g_pv rfl rfl ?_ | refine gc_seq ?_ | refine gc_region ?_ | refine gc_cond_t rfl ?_)
    refine g_p (p_eqT rfl rfl rfl) rfl ?_
    refine g_eq 15 (u' := .bool true) rfl (by simp) ?_
    repeat' (first | refine g_pv rfl rfl ?_ | refine g_yes rfl rfl rfl ?_)
    refine g_call rfl (Cl.of Tryz.func9 rfl rfl) rfl rfl (fun w' hE => heads13_sp w' (h20.ten.le (fun b o h => old_le hE b o (old_le0 _ w b o h)))) rfl (fun _ _ => ?_)
    repeat' (first | refine g_pv rfl rfl ?_ | refine g_nil ?_ | refine gq_then ?_ | refine gc_ret ?_ | refine gq_then_ret ?_)
    exact gq_ret1 (.inr rfl) rfl rfl rfl (fun w' H => ⟨(), trivial, rfl, hp_nil H⟩)
  repeat' (first | refine g_pv rfl rfl ?_ | refine g_nil ?_ | refine gq_then ?_ | refine gc_seq ?_ | refine gc_region ?_ | refine gc_cond_f rfl ?_ | refine gc_skip ?_)
  refine g_call rfl (Cl.of Tryz.func22 rfl rfl) rfl rfl (fun w' hE => parse_sp p _ w' hp hc ht (hm.le (fun b o h => old_le hE b o (old_le0 _ w b o h))) (h20.le (fun b o h => old_le hE b o (old_le0 _ w b o h)))) rfl ?_
  rintro y ⟨hy, he⟩
  dsimp only
  repeat' (first | refine g_pv rfl rfl ?_ | refine g_nil ?_ | refine gq_then ?_ | refine gc_seq ?_ | refine gc_region ?_ | refine g_yes rfl rfl rfl ?_ | refine g_alloc rfl rfl (fun _ => ?_) | refine g_st 0 rfl rfl rfl rfl rfl rfl rfl ?_)
  rename_i b5
  have hq : ∀ w', Hp ⟨Tryz.sx, none, 0, Tryz.f7.ntmps, [], w, [].flatten⟩ w' ([(b5, .cells ⟨y.pr.cells⟩ 25 (0, 0))] :: (y.rest ++ [[(b1, .cells ⟨p.cells⟩ 25 (0, 0))]])) → PrIn (hw w') y.pr := fun w' hE =>
    prin_of hp he hy (hd_rest (A := [[(b5, .cells ⟨y.pr.cells⟩ 25 (0, 0))]]) (B := [[(b1, .cells ⟨p.cells⟩ 25 (0, 0))]]) hE)
  refine g_ld 8 rfl rfl rfl rfl rfl rfl ?_
  repeat' (first | refine g_ld 0 rfl rfl rfl rfl rfl rfl ?_ | refine g_yes rfl rfl rfl ?_)
  refine g_call rfl (Cl.of Tryz.func15 rfl rfl) rfl rfl (fun w' hE => rprog_sp p y.pr w' he.symm (hp.le (fun b o h => old_le hE b o (old_le0 _ w b o h))) (hq w' hE)) rfl ?_
  rintro bb rfl
  repeat' (first | refine g_pv rfl rfl ?_ | refine g_ld 0 rfl rfl rfl rfl rfl rfl ?_ | refine g_yes rfl rfl rfl ?_)
  refine g_call rfl (Cl.of Tryz.func8 rfl rfl) rfl rfl (fun w' hE => check_sp y.pr w' (hq w' hE)) rfl ?_
  rintro ee rfl
  rw [checkB_same he, hc]
  repeat' (first | refine g_pv rfl rfl ?_ | refine g_yes rfl rfl rfl ?_)
  refine g_call rfl (Cl.of Tryz.func9 rfl rfl) rfl rfl (fun w' hE => heads13_sp w' (h20.ten.le (fun b o h => old_le hE b o (old_le0 _ w b o h)))) rfl (fun _ _ => ?_)
  repeat' (first | refine g_pv rfl rfl ?_ | refine g_nil ?_ | refine gq_then ?_ | refine gc_ret ?_)
  exact gq_ret1 (.inr rfl) rfl rfl rfl (fun w' H => ⟨(), trivial, rfl, hp_nil H⟩)
end Go.Proofs.YtpohhfggmaihpaaGreatDoor

/- TacBack: PROVED FOR EVERY INPUT: the call returns true, and its argument reads as it read; over worlds whose listed tables read as the program lays them. -/
namespace Go.Proofs.YtpohhfggmaihpaaGreatDoor
open Go.Wk Go.ChangeShapes Go.WideShapes Go.ChangeAt Go.RowKit
set_option linter.unusedVariables false
set_option maxRecDepth 100000

theorem pow20_of {W : World} (h : laidMetH Tryz.prog laid13 W) : Pow20 (hw W) := by
  rw [MakeChecks.laidMetH_plain _ _ _ (by kernel_rfl)] at h
  have h1 := laidMet.filter (fun x => x.1 == "internal/strconv.uint64pow10") h
  have e : laid13.filter (fun x => x.1 == "internal/strconv.uint64pow10") = [("internal/strconv.uint64pow10", Lib.tabData .u64 pow10Z)] := by kernel_rfl
  rw [e] at h1
  have ht : Lib.TabIs Tryz.prog W "internal/strconv.uint64pow10" .u64 pow10Z := Lib.tabIs_of_head (rest := []) gPow gPowT Tryz.underlying207 Tryz.underlying148 (by kernel_rfl) (by kernel_rfl) h1
  unfold Lib.TabIs World.var? at ht
  rw [gPow] at ht
  simp only [Option.bind_some] at ht
  unfold Pow20 hw
  cases hh : W.heap[1]? with
  | none => rw [hh] at ht; cases ht
  | some o => cases o with
    | cells c e fz =>
      rw [hh] at ht
      have hc : c = (pow10Z.map fun z => Value.int .u64 z).toArray := Option.some.inj ht
      exact ⟨e, fz, by rw [hc]; rfl⟩
    | _ => rw [hh] at ht; cases ht
theorem m0_of {W : World} (h : W.ShapedOpen Tryz.prog) : M0 (hw W) := by
  obtain ⟨m, hm⟩ := Go.Proofs.cell_of_shapedOpen_int (g := 0) (zero := #[.int .i64 0]) (t := 3) h (of_decide_eq_true (by kernel_rfl)) (by kernel_rfl) rfl (by kernel_rfl) (by kernel_rfl) Tryz.underlying3
  exact ⟨m, by rw [cellAt_hw]; exact hm⟩
theorem tacBack_contract (H : Type) (enc : TypeId × Value → H) (W : World) (base : Nat) (args : Array Value) (ds gs : List (DataW H)) (before : List MemPlace)
    (hval : ∀ (j : Nat) t v, Tryz.f7.params[j]? = some t → args[j]? = some v → Value.okWide Tryz.prog W .any base t v)
    (hW : DataW.Whole enc Tryz.prog Tryz.f7.params.toList Rows.tacBackSpec.vars false W args.toList ds gs before)
    (hsz : (DataW.weightsEach Tryz.prog (Tryz.f7.params.toList ++ Rows.tacBackSpec.plain.varTypes Tryz.prog) (ds ++ gs)).all (· ≤ reachBytes) = true) (hL : laidMetH Tryz.prog laid13 W) (hS : W.ShapedOpen Tryz.prog) :
    Calls Tryz.prog 7 args W fun e W' => ∃ v, e = .returned v ∧ Rows.tacBackSpec.post enc Tryz.prog Tryz.f7 false true false false W args v W' := by
  have hW' := hW
  obtain ⟨p, q, hA0, hV, rfl, hfz, hnd⟩ := hW
  have hA : DataW.TrodAll enc Tryz.prog W 0 (fun _ => true) true Tryz.f7.params.toList args.toList ds p := hA0
  rw [Tryz.params7] at hA hval hsz
  obtain ⟨v0, d0, rfl, rfl, h0⟩ := trodAll_one hA
  obtain ⟨rfl, rfl⟩ := trodVars_none hV
  have hws : ∀ n ∈ d0.weights Tryz.prog 25, n ≤ reachBytes := fun n hn => by
    have := List.all_eq_true.1 hsz n (DataW.weights_mem_each (j := 0) rfl rfl n hn)
    simpa using this
  obtain ⟨pr, rfl, hc⟩ := prog_read (hval 0 25 _ rfl rfl) h0 hws
  clear hA0 hval hA hsz
  simp only [List.append_nil] at hW'
  refine (tacBack_sp pr W hc (m0_of hS) (pow20_of hL)).mono fun e W' ⟨_, _, he, hE⟩ => ?_
  subst he
  have hB := eff_below hE
  have hlt : ∀ x ∈ p, x.block < W.heap.size := fun x hx => by simpa using hW'.lt x hx
  refine ⟨_, rfl, _, _, _, [], p, [], hW', ?_, ?_, ?_, hB.frame _, fun h => by cases h⟩
  · exact trodAll_mk1 (shut_bool Tryz.underlying4 _)
  · exact trodAll_mk1 (prog_again h0 hB hlt)
  · exact rfl

theorem tacBack_reads (os : Os) {H : Type} (enc : TypeId × Value → H) : ∃ places, DataW.whole enc Tryz.prog ((World.laidAll Tryz.prog os laid13).forCall (fun _ _ => 0) ⟨#[], #[.agg #[.slice none 0 0, .slice none 0 0, .int .i64 0]], []⟩).memory Tryz.f7.params.toList Rows.tacBackSpec.vars false #[Value.agg #[.slice none 0 0, .slice none 0 0, .int .i64 0]].toList 8 = some ([.agg [.nil, .nil, .lit (.int .i64 0)]], [], places) :=
  ⟨[], by kernel_rfl⟩
theorem tacBack_lifted (os : Os) (started : os.Started) (H : Type) (enc : TypeId × Value → H) (F : Stop.Interp) :
    ReturnsInHanded {} Tryz.checked os 7 .any ((OpenSpec.ofChange Rows.tacBackSpec).preRow enc Tryz.prog Tryz.f7 Rows.tacBackRow.domain false Rows.tacBackRow.laid) (((OpenSpec.ofChange Rows.tacBackSpec).at F).post enc Tryz.prog Tryz.f7 false true false false) := by
  obtain ⟨places, hx⟩ := tacBack_reads os enc
  refine returnsInHanded_of_row (C := Tryz.checked) (s := OpenSpec.ofChange Rows.tacBackSpec) own_knob started (by kernel_rfl) Tryz.func7
    (witness_row_atRef (enc := enc) (C := Tryz.checked) false (World.laidAll Tryz.prog os laid13) #[.agg #[.slice none 0 0, .slice none 0 0, .int .i64 0]] (World.laidAll_os _ _ _) (by kernel_rfl) (by kernel_rfl) (by kernel_rfl)
      (OpenSpec.preRow_of_cond 8 hx (by kernel_rfl) (fun k hk => by cases hk) (by kernel_rfl) (laid13_met os _))) ?_
  intro W base args ds gs before hval hW _ _ hsz hL hS _
  exact tacBack_contract H enc W base args ds gs before hval hW hsz hL hS
end Go.Proofs.YtpohhfggmaihpaaGreatDoor
