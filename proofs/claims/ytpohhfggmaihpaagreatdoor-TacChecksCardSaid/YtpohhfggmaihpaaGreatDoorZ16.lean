/-
  The document's Right.
  The document's object.
-/
import Derived.Test.YtpohhfggmaihpaaGreatDoorZ15

/- The document's Right. -/
namespace Go.Proofs.YtpohhfggmaihpaaGreatDoor
open Go.Wk
set_option linter.unusedVariables false
set_option linter.unusedSimpArgs false
attribute [local irreducible] G GC GQ GA GS Exit.then Exit.inBlock

def binB (x : Ins) : Bool := (nameL x.bin).toList != (⟨#[]⟩ : ByteArray).toList
def rngB (n lo hi : Int) : Bool := decide (lo ≤ n) && decide (n ≤ hi)
theorem inB_lt (n l : Int) : (decide (0 ≤ n) && decide (n ≤ l)) = inB n (l + 1) := by
  have := inB_le n (l + 1); rw [← this]; congr 2; simp
theorem wrap_suc {n : Int} (h : in64 n ∧ n ≤ 16384) : IntKind.i64.wrap (n + 1) = n + 1 := by
  have := h.1.1; have := h.2
  simp only [IntKind.wrap, IntKind.signed, IntKind.bits]; simp; omega
theorem powB_lt {n : Int} (h : powB n = true) : decide (n < 4) = !(n == 4) := by
  rcases of_decide_eq_true h with h | h | h <;> subst h <;> rfl
theorem offB_eq (x : Ins) : offB x = (rngB x.off (-16384) 16384 && powB x.width) := by
  unfold offB rngB; rw [Bool.and_comm]
section
variable {nb : Bool} {j : Jg} {x : Ins}
theorem okI1 (h : x.op = 1) : okI nb j x = (inB x.d j.f.te && argB j.f.te x.a) := by simp [okI, h]
theorem okI2 (h : x.op = 2) : okI nb j x = (inB x.d j.f.te && (argB j.f.te x.a && (argB j.f.te x.b && binB x))) := by simp [okI, h, binB]
theorem okI3 (h : x.op = 3) : okI nb j x = (inB x.d j.f.te && (inB x.n j.f.slots.length && (match j.f.slots[x.n.toNat]? with | some s => inB x.off (IntKind.i64.wrap (s.size + 1)) | none => false))) := by simp only [okI, h]; rfl
theorem okI4 (h : x.op = 4) : okI nb j x = (inB x.d j.f.te && (inB x.n j.p.obs.length && (match j.p.obs[x.n.toNat]? with | some s => inB x.off (IntKind.i64.wrap (s.size + 1)) | none => false))) := by simp only [okI, h]; rfl
theorem okI5 (h : x.op = 5) : okI nb j x = (inB x.d j.f.te && (argB j.f.te x.a && ((rngB x.off (-16384) 16384 && powB x.width) && (decide (x.width < 4) || !x.signed)))) := by rw [← offB_eq]; simp [okI, h]
theorem okI6 (h : x.op = 6) : okI nb j x = (argB j.f.te x.a && (argB j.f.te x.b && (rngB x.off (-16384) 16384 && powB x.width))) := by rw [← offB_eq]; simp [okI, h]
theorem okI7 (h : x.op = 7) : okI nb j x = (argB j.f.te x.a && (argB j.f.te x.b && (powB x.width && (rngB x.off 1 16384 && (x.off.tmod x.width == 0))))) := by
  simp only [okI, h, rngB, Bool.and_assoc]; rfl
theorem okI8 (h : x.op = 8) : okI nb j x = rcallB j.p j.f x := by simp only [okI, h]; rfl
theorem okI9 (h : x.op = 9) : okI nb j x = ((j.f.gi && argB j.f.te x.a) || (!j.f.gi && (x.a.k == 0 && x.a.n == 0))) := by simp only [okI, h]; rfl
theorem okI10 (h : x.op = 10) : okI nb j x = inB x.n j.f.code.length := by simp [okI, h]
theorem okI11 (h : x.op = 11) : okI nb j x = (inB x.n j.f.code.length && argB j.f.te x.a) := by simp [okI, h]
theorem okI12 (h : x.op = 12) : okI nb j x = argB j.f.te x.a := by simp [okI, h]
theorem okI13 (h : x.op = 13) : okI nb j x = inB x.d j.f.te := by simp [okI, h]
theorem okI14 (h : x.op = 14) : okI nb j x = argB j.f.te x.a := by simp [okI, h]
theorem okIlt (h : x.op < 1) : okI nb j x = false := by
  unfold okI; repeat rw [if_neg (by omega)]
theorem okIgt (h : x.op > 14) : okI nb j x = false := by
  unfold okI; repeat rw [if_neg (by omega)]
end
theorem shape_args (x : Ins) : (shapeI x).args = [] := by
  simp only [shapeI, apply_ite Ins.args, ite_self]
theorem rshape_args (x : Ins) : argsEq x.args (rshapeI x).args = ((x.args.length : Int) == argsN x) := by
  by_cases h : x.op = 8
  · rw [rshape8 h]; dsimp only; rw [argsEq_refl, show argsN x = (x.args.length : Int) from by simp [argsN, h]]; exact (beq_self_eq_true _).symm
  · rw [rshapeN h, shape_args, argsEq_nil_r, show argsN x = 0 from by simp [argsN, h]]
theorem rshape_alike (x : Ins) : alikeB x (rshapeI x) = alikeB x (shapeI x) := by
  by_cases h : x.op = 8
  · rw [rshape8 h, shape8 h]; rfl
  · rw [rshapeN h]
theorem rshape_same (x : Ins) : sameB x (rshapeI x) = (((x.args.length : Int) == argsN x) && alikeB x (shapeI x)) := by
  unfold sameB; rw [rshape_args, rshape_alike, Bool.and_comm]
theorem rshape_rd {h : Nat → Option Obj} {x : Ins} (H : Rd h Arg.cells 2 x.aA x.args) : Rd h Arg.cells 2 (rshapeI x).aA (rshapeI x).args := by
  by_cases h8 : x.op = 8
  · rw [rshape8 h8]; exact H
  · rw [rshapeN h8, shape_args]; intro i u hu; simp at hu
theorem rightB_same {nb : Bool} {j : Jg} {x : Ins} (h : sameB x (rshapeI x) = true) : rightB nb j x = okI nb j x := by
  rw [rshape_same] at h; unfold rightB; rw [h, Bool.and_true]
theorem rightB_not {nb : Bool} {j : Jg} {x : Ins} (h : sameB x (rshapeI x) = false) : rightB nb j x = false := by
  rw [rshape_same] at h; unfold rightB; rw [h, Bool.and_false]

set_option maxHeartbeats 16000000 in
theorem rright_sp (p : Pr) (f : Fn) (x : Ins) (w : World) (hp : PrIn (hw w) p) (hf : FnIn (hw w) f) (hx : InsIn (hw w) x)
    (hfs : ∀ s ∈ f.slots, in64 s.size ∧ s.size ≤ 16384) (hps : ∀ s ∈ p.obs, in64 s.size ∧ s.size ≤ 16384) (hcl : f.code.length ≤ 8796093022000) :
    Sp Tryz.prog 54 [p.val, f.val, x.val] w [] (fun b : Bool => .bool b) (fun _ => []) (fun b => b = rightB true ⟨p, f⟩ x) := by
  have hslen := hf.slen
  have holen := hp.olen
  have hxlen := hx.len
  refine enter (s := Tryz.sx) [] Tryz.func54 rfl rfl rfl (Eff.refl w) ?_
  refine gc_seq ?_
  repeat' (first | refine g_pv rfl rfl ?_ | refine g_nil ?_ | refine gq_then ?_ | refine gc_region ?_ | refine g_box rfl rfl (fun _ => ?_))
  rename_i b3 b4 b5
  refine gc_seq ?_
  refine gc_seq ?_
  refine gc_draw [[(b5, .cells ⟨x.cells⟩ 43 (0, 0))], [(b4, .cells ⟨f.cells⟩ 32 (0, 0))], [(b3, .cells ⟨p.cells⟩ 25 (0, 0))]] [] rfl (List.Perm.of_eq rfl) ?_
  (refine ga_p 0 (by repeat first | exact NoP.sp | apply NoP.then | apply NoP.block) rfl (pv_spec rfl) rfl (by kernel_rfl) (by kernel_rfl) (by kernel_rfl) ?_); (refine ga_ld 1 0 (by repeat first | exact NoP.sp | apply NoP.then | apply NoP.block) rfl wanted_none rfl rfl rfl rfl rfl rfl (by kernel_rfl) (by kernel_rfl) (by kernel_rfl) ?_); (refine ga_p 2 (by repeat first | exact NoP.sp | apply NoP.then | apply NoP.block) rfl (pv_spec rfl) rfl (by kernel_rfl) (by kernel_rfl) (by kernel_rfl) ?_); (refine ga_p 3 (by repeat first | exact NoP.sp | apply NoP.then | apply NoP.block) rfl (pv_spec rfl) rfl (by kernel_rfl) (by kernel_rfl) (by kernel_rfl) ?_)
  refine ga_case (t := 10) rfl (fun h1 => ?_) (fun h1 => ?_)
  · have h1 : x.op < 1 := of_decide_eq_true h1
    (refine ga_n 4 (by repeat first | exact NoP.sp | apply NoP.then | apply NoP.block) rfl rfl rfl rfl rfl rfl (by kernel_rfl) (by kernel_rfl) (by kernel_rfl) ?_); (refine ga_n 5 (by repeat first | exact NoP.sp | apply NoP.then | apply NoP.block) rfl rfl rfl rfl rfl rfl (by kernel_rfl) (by kernel_rfl) (by kernel_rfl) ?_); (refine ga_n 6 (by repeat first | exact NoP.sp | apply NoP.then | apply NoP.block) rfl rfl rfl rfl rfl rfl (by kernel_rfl) (by kernel_rfl) (by kernel_rfl) ?_); (refine ga_p 7 (by repeat first | exact NoP.sp | apply NoP.then | apply NoP.block) rfl (pv_spec rfl) rfl (by kernel_rfl) (by kernel_rfl) (by kernel_rfl) ?_); (refine ga_p 8 (by repeat first | exact NoP.sp | apply NoP.then | apply NoP.block) rfl (pv_spec rfl) rfl (by kernel_rfl) (by kernel_rfl) (by kernel_rfl) ?_); (refine ga_n 9 (by repeat first | exact NoP.sp | apply NoP.then | apply NoP.block) rfl rfl rfl rfl rfl rfl (by kernel_rfl) (by kernel_rfl) (by kernel_rfl) ?_); (refine ga_n 10 (by repeat first | exact NoP.sp | apply NoP.then | apply NoP.block) rfl rfl rfl rfl rfl rfl (by kernel_rfl) (by kernel_rfl) (by kernel_rfl) ?_); (refine ga_n 11 (by repeat first | exact NoP.sp | apply NoP.then | apply NoP.block) rfl rfl rfl rfl rfl rfl (by kernel_rfl) (by kernel_rfl) (by kernel_rfl) ?_); (refine ga_n 12 (by repeat first | exact NoP.sp | apply NoP.then | apply NoP.block) rfl rfl rfl rfl rfl rfl (by kernel_rfl) (by kernel_rfl) (by kernel_rfl) ?_); (refine ga_n 13 (by repeat first | exact NoP.sp | apply NoP.then | apply NoP.block) rfl rfl rfl rfl rfl rfl (by kernel_rfl) (by kernel_rfl) (by kernel_rfl) ?_); (refine ga_p 14 (by repeat first | exact NoP.sp | apply NoP.then | apply NoP.block) rfl (pv_spec rfl) rfl (by kernel_rfl) (by kernel_rfl) (by kernel_rfl) ?_)
    refine ga_nil (by kernel_rfl) ?_
    repeat' (first | refine g_pv rfl rfl ?_ | refine g_nil ?_ | refine gq_then ?_ | refine gc_seq ?_ | refine gc_region ?_ | refine gc_cond_t rfl ?_ | refine gc_ret ?_ | refine gq_then_ret ?_)
    refine gq_ret1 (.inr rfl) rfl rfl rfl (fun w' H => ⟨false, ?_, rfl, hp_nil H⟩)
    unfold rightB; rw [okIlt h1]; rfl
  have h1 : ¬ x.op < 1 := of_decide_eq_false h1
  (refine ga_py 4 (by repeat first | exact NoP.sp | apply NoP.then | apply NoP.block) rfl rfl rfl rfl (pv_spec rfl) rfl (by kernel_rfl) (by kernel_rfl) (by kernel_rfl) ?_); (refine ga_ld 5 0 (by repeat first | exact NoP.sp | apply NoP.then | apply NoP.block) rfl (wanted_yes rfl rfl rfl) rfl rfl rfl rfl rfl rfl (by kernel_rfl) (by kernel_rfl) (by kernel_rfl) ?_); (refine ga_py 6 (by repeat first | exact NoP.sp | apply NoP.then | apply NoP.block) rfl rfl rfl rfl (pv_spec rfl) rfl (by kernel_rfl) (by kernel_rfl) (by kernel_rfl) ?_); (refine ga_p 7 (by repeat first | exact NoP.sp | apply NoP.then | apply NoP.block) rfl (pv_spec rfl) rfl (by kernel_rfl) (by kernel_rfl) (by kernel_rfl) ?_); (refine ga_p 8 (by repeat first | exact NoP.sp | apply NoP.then | apply NoP.block) rfl (pv_spec rfl) rfl (by kernel_rfl) (by kernel_rfl) (by kernel_rfl) ?_)
  refine ga_case (t := 15) rfl (fun h2 => ?_) (fun h2 => ?_)
  · have h2 : x.op > 14 := of_decide_eq_true h2
    (refine ga_n 9 (by repeat first | exact NoP.sp | apply NoP.then | apply NoP.block) rfl rfl rfl rfl rfl rfl (by kernel_rfl) (by kernel_rfl) (by kernel_rfl) ?_); (refine ga_n 10 (by repeat first | exact NoP.sp | apply NoP.then | apply NoP.block) rfl rfl rfl rfl rfl rfl (by kernel_rfl) (by kernel_rfl) (by kernel_rfl) ?_); (refine ga_n 11 (by repeat first | exact NoP.sp | apply NoP.then | apply NoP.block) rfl rfl rfl rfl rfl rfl (by kernel_rfl) (by kernel_rfl) (by kernel_rfl) ?_); (refine ga_n 12 (by repeat first | exact NoP.sp | apply NoP.then | apply NoP.block) rfl rfl rfl rfl rfl rfl (by kernel_rfl) (by kernel_rfl) (by kernel_rfl) ?_); (refine ga_n 13 (by repeat first | exact NoP.sp | apply NoP.then | apply NoP.block) rfl rfl rfl rfl rfl rfl (by kernel_rfl) (by kernel_rfl) (by kernel_rfl) ?_); (refine ga_p 14 (by repeat first | exact NoP.sp | apply NoP.then | apply NoP.block) rfl (pv_spec rfl) rfl (by kernel_rfl) (by kernel_rfl) (by kernel_rfl) ?_)
    refine ga_nil (by kernel_rfl) ?_
    repeat' (first | refine g_pv rfl rfl ?_ | refine g_nil ?_ | refine gq_then ?_ | refine gc_seq ?_ | refine gc_region ?_ | refine gc_cond_t rfl ?_ | refine gc_ret ?_ | refine gq_then_ret ?_)
    refine gq_ret1 (.inr rfl) rfl rfl rfl (fun w' H => ⟨false, ?_, rfl, hp_nil H⟩)
    unfold rightB; rw [okIgt h2]; rfl
  have h2 : ¬ x.op > 14 := of_decide_eq_false h2
  (refine ga_ld 9 0 (by repeat first | exact NoP.sp | apply NoP.then | apply NoP.block) rfl (wanted_yes rfl rfl rfl) rfl rfl rfl rfl rfl rfl (by kernel_rfl) (by kernel_rfl) (by kernel_rfl) ?_); (refine ga_ld 10 0 (by repeat first | exact NoP.sp | apply NoP.then | apply NoP.block) rfl (wanted_yes rfl rfl rfl) rfl rfl rfl rfl rfl rfl (by kernel_rfl) (by kernel_rfl) (by kernel_rfl) ?_)
  refine ga_one (i := 11) (by kernel_rfl) (gs_of rfl (fun K hK => ?_))
  refine g_yes rfl rfl rfl ?_
  refine g_call rfl (Cl.of Tryz.func96 rfl rfl) rfl rfl (fun w' hE => rshape_sp x w') rfl (fun _ _ => ?_)
  refine g_nil ?_
  refine hK _ _ ⟨[], List.Perm.of_eq rfl⟩ ?_
  refine ga_one (i := 12) (by kernel_rfl) (gs_of rfl (fun K hK => ?_))
  refine g_yes rfl rfl rfl ?_
  refine g_call rfl (Cl.of Tryz.func55 rfl rfl) rfl rfl (fun w' hE => rSame_sp x (rshapeI x) w' (hx.args.le (fun b o h => old_le hE b o (old_le0 _ w b o h))) (rshape_rd (hx.args.le (fun b o h => old_le hE b o (old_le0 _ w b o h)))) hxlen) rfl ?_
  rintro b hS
  refine g_nil ?_
  refine hK _ _ ⟨[], List.Perm.of_eq rfl⟩ ?_
  (refine ga_py 13 (by repeat first | exact NoP.sp | apply NoP.then | apply NoP.block) rfl rfl rfl rfl (pv_spec rfl) rfl (by kernel_rfl) (by kernel_rfl) (by kernel_rfl) ?_); (refine ga_p 14 (by repeat first | exact NoP.sp | apply NoP.then | apply NoP.block) rfl (pv_spec rfl) rfl (by kernel_rfl) (by kernel_rfl) (by kernel_rfl) ?_)
  refine ga_nil (by kernel_rfl) ?_
  cases b
  · repeat' (first | refine g_pv rfl rfl ?_ | refine g_nil ?_ | refine gq_then ?_ | refine gc_seq ?_ | refine gc_region ?_ | refine gc_cond_t rfl ?_ | refine gc_ret ?_ | refine gq_then_ret ?_)
    refine gq_ret1 (.inr rfl) rfl rfl rfl (fun w' H => ⟨false, ?_, rfl, hp_nil H⟩)
    rw [rightB_not hS.symm]
  have hS : rightB true ⟨p, f⟩ x = okI true ⟨p, f⟩ x := rightB_same hS.symm
  repeat' (first | refine g_pv rfl rfl ?_ | refine g_ld 0 rfl rfl rfl rfl rfl rfl ?_ | refine g_nil ?_ | refine gq_then ?_ | refine gc_seq ?_ | refine gc_region ?_ | refine gc_block ?_ | refine gc_cond_f rfl ?_ | refine gc_skip ?_)
  refine gc_condC rfl (fun c1 => ?_) (fun c1 => ?_)
  · have hop : x.op = 1 := beq_iff_eq.1 c1
    repeat' (first | refine g_pv rfl rfl ?_ | refine g_ld 0 rfl rfl rfl rfl rfl rfl ?_ | refine g_ld 1 rfl rfl rfl rfl rfl rfl ?_ | refine gc_seq ?_ | refine gc_region ?_)
    refine g_call rfl (Cl.of Tryz.func97 rfl rfl) rfl rfl (fun w' hE => rtemp_sp f x.d w') rfl ?_
    rintro q1 hq1
    have hq1 : inB x.d f.te = q1 := hq1.symm
    cases q1
    · -- no
      repeat' (first | refine g_pv rfl rfl ?_ | refine g_nil ?_ | refine gq_then ?_ | refine gc_ret ?_ | refine gq_then_ret ?_ | refine gq_block_ret ?_ | refine g_no rfl rfl rfl rfl rfl ?_)
      refine gq_ret1 (.inr rfl) rfl rfl rfl (fun w' H => ⟨_, ?_, rfl, hp_nil H⟩)
      rw [hS, okI1 hop]; simp [hq1]
    repeat' (first | refine g_pv rfl rfl ?_ | refine g_ld 0 rfl rfl rfl rfl rfl rfl ?_ | refine g_ld 1 rfl rfl rfl rfl rfl rfl ?_ | refine g_yes rfl rfl rfl ?_)
    refine g_call rfl (Cl.of Tryz.func98 rfl rfl) rfl rfl (fun w' hE => rarg_sp f x.a w' (hx.ok x.a (by simp)) hf.te) rfl ?_
    rintro q2 hq2
    have hq2 : q2 = argB f.te x.a := hq2
    repeat' (first | refine g_pv rfl rfl ?_ | refine g_nil ?_ | refine gq_then ?_ | refine gc_ret ?_ | refine gq_then_ret ?_ | refine gq_block_ret ?_)
    refine gq_ret1 (.inr rfl) rfl rfl rfl (fun w' H => ⟨q2, ?_, rfl, hp_nil H⟩)
    rw [hS, okI1 hop, hq2]; simp [hq1]
  repeat' (first | refine g_pv rfl rfl ?_ | refine g_nil ?_ | refine gq_then ?_ | refine gc_seq ?_ | refine gc_region ?_)
  refine gc_condC rfl (fun c2 => ?_) (fun c2 => ?_)
  · have hop : x.op = 2 := beq_iff_eq.1 c2
    repeat' (first | refine g_pv rfl rfl ?_ | refine g_ld 0 rfl rfl rfl rfl rfl rfl ?_ | refine g_ld 1 rfl rfl rfl rfl rfl rfl ?_ | refine gc_seq ?_ | refine gc_region ?_)
    refine g_call rfl (Cl.of Tryz.func97 rfl rfl) rfl rfl (fun w' hE => rtemp_sp f x.d w') rfl ?_
    rintro q3 hq3
    have hq3 : inB x.d f.te = q3 := hq3.symm
    cases q3
    · -- no
      repeat' (first | refine g_pv rfl rfl ?_ | refine g_nil ?_ | refine gq_then ?_ | refine gc_ret ?_ | refine gq_then_ret ?_ | refine gq_block_ret ?_ | refine g_no rfl rfl rfl rfl rfl ?_)
      refine gq_ret1 (.inr rfl) rfl rfl rfl (fun w' H => ⟨_, ?_, rfl, hp_nil H⟩)
      rw [hS, okI2 hop]; simp [hq3]
    repeat' (first | refine g_pv rfl rfl ?_ | refine g_ld 0 rfl rfl rfl rfl rfl rfl ?_ | refine g_yes rfl rfl rfl ?_)
    refine g_call rfl (Cl.of Tryz.func99 rfl rfl) rfl rfl (fun w' hE => rname_sp x.bin w') rfl ?_
    rintro _ rfl
    repeat' (refine g_yes rfl rfl rfl ?_)
    refine g_p (p_neT rfl rfl rfl) rfl ?_
    repeat' (refine g_pv rfl rfl ?_)
    refine g_case (t := 48) rfl (fun h4 => ?_) (fun h4 => ?_)
    rotate_left
    · have h4 : binB x = false := h4
      repeat' (first | refine g_pv rfl rfl ?_ | refine g_nil ?_ | refine gq_then ?_ | refine gc_ret ?_ | refine gq_then_ret ?_ | refine gq_block_ret ?_ | refine g_no rfl rfl rfl rfl rfl ?_)
      refine gq_ret1 (.inr rfl) rfl rfl rfl (fun w' H => ⟨_, ?_, rfl, hp_nil H⟩)
      rw [hS, okI2 hop]; simp [hq3, h4]
    have h4 : binB x = true := h4
    repeat' (first | refine g_pv rfl rfl ?_ | refine g_ld 0 rfl rfl rfl rfl rfl rfl ?_ | refine g_ld 1 rfl rfl rfl rfl rfl rfl ?_ | refine g_yes rfl rfl rfl ?_)
    refine g_call rfl (Cl.of Tryz.func98 rfl rfl) rfl rfl (fun w' hE => rarg_sp f x.a w' (hx.ok x.a (by simp)) hf.te) rfl ?_
    rintro q5 hq5
    have hq5 : argB f.te x.a = q5 := hq5.symm
    cases q5
    · -- no
      repeat' (first | refine g_pv rfl rfl ?_ | refine g_nil ?_ | refine gq_then ?_ | refine gc_ret ?_ | refine gq_then_ret ?_ | refine gq_block_ret ?_ | refine g_no rfl rfl rfl rfl rfl ?_)
      refine gq_ret1 (.inr rfl) rfl rfl rfl (fun w' H => ⟨_, ?_, rfl, hp_nil H⟩)
      rw [hS, okI2 hop]; simp [hq3, h4, hq5]
    repeat' (first | refine g_pv rfl rfl ?_ | refine g_ld 0 rfl rfl rfl rfl rfl rfl ?_ | refine g_ld 1 rfl rfl rfl rfl rfl rfl ?_ | refine g_yes rfl rfl rfl ?_)
    refine g_call rfl (Cl.of Tryz.func98 rfl rfl) rfl rfl (fun w' hE => rarg_sp f x.b w' (hx.ok x.b (by simp)) hf.te) rfl ?_
    rintro q6 hq6
    have hq6 : q6 = argB f.te x.b := hq6
    repeat' (first | refine g_pv rfl rfl ?_ | refine g_nil ?_ | refine gq_then ?_ | refine gc_ret ?_ | refine gq_then_ret ?_ | refine gq_block_ret ?_)
    refine gq_ret1 (.inr rfl) rfl rfl rfl (fun w' H => ⟨q6, ?_, rfl, hp_nil H⟩)
    rw [hS, okI2 hop, hq6]; simp [hq3, h4, hq5]
  repeat' (first | refine g_pv rfl rfl ?_ | refine g_nil ?_ | refine gq_then ?_ | refine gc_seq ?_ | refine gc_region ?_)
  refine gc_condC rfl (fun c3 => ?_) (fun c3 => ?_)
  · have hop : x.op = 3 := beq_iff_eq.1 c3
    repeat' (refine gc_seq ?_)
    refine gc_draw [[(b5, .cells ⟨x.cells⟩ 43 (0, 0))], [(b4, .cells ⟨f.cells⟩ 32 (0, 0))], [(b3, .cells ⟨p.cells⟩ 25 (0, 0))]] [] rfl (List.Perm.of_eq rfl) ?_
    (refine ga_ld 0 1 (by repeat first | exact NoP.sp | apply NoP.then | apply NoP.block) rfl wanted_none rfl rfl rfl rfl rfl rfl (by kernel_rfl) (by kernel_rfl) (by kernel_rfl) ?_); (refine ga_p 1 (by repeat first | exact NoP.sp | apply NoP.then | apply NoP.block) rfl (pv_spec rfl) rfl (by kernel_rfl) (by kernel_rfl) (by kernel_rfl) ?_); (refine ga_ld 2 0 (by repeat first | exact NoP.sp | apply NoP.then | apply NoP.block) rfl wanted_none rfl rfl rfl rfl rfl rfl (by kernel_rfl) (by kernel_rfl) (by kernel_rfl) ?_)
    refine ga_one (i := 3) (by kernel_rfl) (gs_of rfl (fun K hK => ?_))
    refine g_call rfl (Cl.of Tryz.func97 rfl rfl) rfl rfl (fun w' hE => rtemp_sp f x.d w') rfl ?_
    rintro q1 h1
    have h1 : inB x.d f.te = q1 := h1.symm
    refine g_nil ?_
    refine hK _ _ ⟨[], List.Perm.of_eq rfl⟩ ?_
    cases q1
    · (refine ga_p 4 (by repeat first | exact NoP.sp | apply NoP.then | apply NoP.block) rfl (pv_spec rfl) rfl (by kernel_rfl) (by kernel_rfl) (by kernel_rfl) ?_); (refine ga_n 5 (by repeat first | exact NoP.sp | apply NoP.then | apply NoP.block) rfl rfl rfl rfl rfl rfl (by kernel_rfl) (by kernel_rfl) (by kernel_rfl) ?_); (refine ga_n 6 (by repeat first | exact NoP.sp | apply NoP.then | apply NoP.block) rfl rfl rfl rfl rfl rfl (by kernel_rfl) (by kernel_rfl) (by kernel_rfl) ?_); (refine ga_n 7 (by repeat first | exact NoP.sp | apply NoP.then | apply NoP.block) rfl rfl rfl rfl rfl rfl (by kernel_rfl) (by kernel_rfl) (by kernel_rfl) ?_); (refine ga_n 8 (by repeat first | exact NoP.sp | apply NoP.then | apply NoP.block) rfl rfl rfl rfl rfl rfl (by kernel_rfl) (by kernel_rfl) (by kernel_rfl) ?_); (refine ga_n 9 (by repeat first | exact NoP.sp | apply NoP.then | apply NoP.block) rfl rfl rfl rfl rfl rfl (by kernel_rfl) (by kernel_rfl) (by kernel_rfl) ?_); (refine ga_n 10 (by repeat first | exact NoP.sp | apply NoP.then | apply NoP.block) rfl rfl rfl rfl rfl rfl (by kernel_rfl) (by kernel_rfl) (by kernel_rfl) ?_); (refine ga_n 11 (by repeat first | exact NoP.sp | apply NoP.then | apply NoP.block) rfl rfl rfl rfl rfl rfl (by kernel_rfl) (by kernel_rfl) (by kernel_rfl) ?_); (refine ga_p 12 (by repeat first | exact NoP.sp | apply NoP.then | apply NoP.block) rfl (pv_spec rfl) rfl (by kernel_rfl) (by kernel_rfl) (by kernel_rfl) ?_); (refine ga_p 13 (by repeat first | exact NoP.sp | apply NoP.then | apply NoP.block) rfl (pv_spec rfl) rfl (by kernel_rfl) (by kernel_rfl) (by kernel_rfl) ?_); (refine ga_n 14 (by repeat first | exact NoP.sp | apply NoP.then | apply NoP.block) rfl rfl rfl rfl rfl rfl (by kernel_rfl) (by kernel_rfl) (by kernel_rfl) ?_); (refine ga_n 15 (by repeat first | exact NoP.sp | apply NoP.then | apply NoP.block) rfl rfl rfl rfl rfl rfl (by kernel_rfl) (by kernel_rfl) (by kernel_rfl) ?_); (refine ga_n 16 (by repeat first | exact NoP.sp | apply NoP.then | apply NoP.block) rfl rfl rfl rfl rfl rfl (by kernel_rfl) (by kernel_rfl) (by kernel_rfl) ?_); (refine ga_n 17 (by repeat first | exact NoP.sp | apply NoP.then | apply NoP.block) rfl rfl rfl rfl rfl rfl (by kernel_rfl) (by kernel_rfl) (by kernel_rfl) ?_); (refine ga_n 18 (by repeat first | exact NoP.sp | apply NoP.then | apply NoP.block) rfl rfl rfl rfl rfl rfl (by kernel_rfl) (by kernel_rfl) (by kernel_rfl) ?_); (refine ga_n 19 (by repeat first | exact NoP.sp | apply NoP.then | apply NoP.block) rfl rfl rfl rfl rfl rfl (by kernel_rfl) (by kernel_rfl) (by kernel_rfl) ?_); (refine ga_n 20 (by repeat first | exact NoP.sp | apply NoP.then | apply NoP.block) rfl rfl rfl rfl rfl rfl (by kernel_rfl) (by kernel_rfl) (by kernel_rfl) ?_); (refine ga_n 21 (by repeat first | exact NoP.sp | apply NoP.then | apply NoP.block) rfl rfl rfl rfl rfl rfl (by kernel_rfl) (by kernel_rfl) (by kernel_rfl) ?_); (refine ga_n 22 (by repeat first | exact NoP.sp | apply NoP.then | apply NoP.block) rfl rfl rfl rfl rfl rfl (by kernel_rfl) (by kernel_rfl) (by kernel_rfl) ?_); (refine ga_n 23 (by repeat first | exact NoP.sp | apply NoP.then | apply NoP.block) rfl rfl rfl rfl rfl rfl (by kernel_rfl) (by kernel_rfl) (by kernel_rfl) ?_); (refine ga_p 24 (by repeat first | exact NoP.sp | apply NoP.then | apply NoP.block) rfl (pv_spec rfl) rfl (by kernel_rfl) (by kernel_rfl) (by kernel_rfl) ?_); (refine ga_p 25 (by repeat first | exact NoP.sp | apply NoP.then | apply NoP.block) rfl (pv_spec rfl) rfl (by kernel_rfl) (by kernel_rfl) (by kernel_rfl) ?_)
      refine ga_nil (by kernel_rfl) ?_
      repeat' (first | refine gq_then ?_ | refine gc_ret ?_ | refine gq_then_ret ?_ | refine gq_block_ret ?_)
      refine gq_ret1 (.inr rfl) rfl rfl rfl (fun w' H => ⟨_, ?_, rfl, hp_nil H⟩)
      rw [hS, okI3 hop]; simp [h1]
    (refine ga_p 4 (by repeat first | exact NoP.sp | apply NoP.then | apply NoP.block) rfl (pv_spec rfl) rfl (by kernel_rfl) (by kernel_rfl) (by kernel_rfl) ?_); (refine ga_py 5 (by repeat first | exact NoP.sp | apply NoP.then | apply NoP.block) rfl rfl rfl rfl (pv_spec rfl) rfl (by kernel_rfl) (by kernel_rfl) (by kernel_rfl) ?_); (refine ga_ld 6 0 (by repeat first | exact NoP.sp | apply NoP.then | apply NoP.block) rfl (wanted_yes rfl rfl rfl) rfl rfl rfl rfl rfl rfl (by kernel_rfl) (by kernel_rfl) (by kernel_rfl) ?_); (refine ga_py 7 (by repeat first | exact NoP.sp | apply NoP.then | apply NoP.block) rfl rfl rfl rfl (pv_spec rfl) rfl (by kernel_rfl) (by kernel_rfl) (by kernel_rfl) ?_); (refine ga_ld 8 1 (by repeat first | exact NoP.sp | apply NoP.then | apply NoP.block) rfl (wanted_yes rfl rfl rfl) rfl rfl rfl rfl rfl rfl (by kernel_rfl) (by kernel_rfl) (by kernel_rfl) ?_); (refine ga_py 9 (by repeat first | exact NoP.sp | apply NoP.then | apply NoP.block) rfl rfl rfl rfl (pv_spec rfl) rfl (by kernel_rfl) (by kernel_rfl) (by kernel_rfl) ?_); (refine ga_py 10 (by repeat first | exact NoP.sp | apply NoP.then | apply NoP.block) rfl rfl rfl rfl (pv_spec rfl) rfl (by kernel_rfl) (by kernel_rfl) (by kernel_rfl) ?_)
    refine ga_eq 72 (u' := .int .i64 ((f.slots.length : Int) - 1)) rfl (by rw [IntKind.wrap_i64]; congr 1; omega) ?_
    refine ga_one (i := 11) (by kernel_rfl) (gs_of rfl (fun K hK => ?_))
    refine g_yes rfl rfl rfl ?_
    refine g_call rfl (Cl.of Tryz.func30 rfl rfl) rfl rfl (fun w' hE => rwithin_sp _ _ _ w') rfl (fun _ _ => ?_)
    refine g_eq 73 (u' := .bool (inB x.n f.slots.length)) rfl (by rw [inB_le]) ?_
    refine g_nil ?_
    refine hK _ _ ⟨[], List.Perm.of_eq rfl⟩ ?_
    (refine ga_p 12 (by repeat first | exact NoP.sp | apply NoP.then | apply NoP.block) rfl (pv_spec rfl) rfl (by kernel_rfl) (by kernel_rfl) (by kernel_rfl) ?_); (refine ga_p 13 (by repeat first | exact NoP.sp | apply NoP.then | apply NoP.block) rfl (pv_spec rfl) rfl (by kernel_rfl) (by kernel_rfl) (by kernel_rfl) ?_)
    refine ga_case (t := 75) rfl (fun h2 => ?_) (fun h2 => ?_)
    rotate_left
    · have h2 : inB x.n f.slots.length = false := h2
      (refine ga_n 14 (by repeat first | exact NoP.sp | apply NoP.then | apply NoP.block) rfl rfl rfl rfl rfl rfl (by kernel_rfl) (by kernel_rfl) (by kernel_rfl) ?_); (refine ga_n 15 (by repeat first | exact NoP.sp | apply NoP.then | apply NoP.block) rfl rfl rfl rfl rfl rfl (by kernel_rfl) (by kernel_rfl) (by kernel_rfl) ?_); (refine ga_n 16 (by repeat first | exact NoP.sp | apply NoP.then | apply NoP.block) rfl rfl rfl rfl rfl rfl (by kernel_rfl) (by kernel_rfl) (by kernel_rfl) ?_); (refine ga_n 17 (by repeat first | exact NoP.sp | apply NoP.then | apply NoP.block) rfl rfl rfl rfl rfl rfl (by kernel_rfl) (by kernel_rfl) (by kernel_rfl) ?_); (refine ga_n 18 (by repeat first | exact NoP.sp | apply NoP.then | apply NoP.block) rfl rfl rfl rfl rfl rfl (by kernel_rfl) (by kernel_rfl) (by kernel_rfl) ?_); (refine ga_n 19 (by repeat first | exact NoP.sp | apply NoP.then | apply NoP.block) rfl rfl rfl rfl rfl rfl (by kernel_rfl) (by kernel_rfl) (by kernel_rfl) ?_); (refine ga_n 20 (by repeat first | exact NoP.sp | apply NoP.then | apply NoP.block) rfl rfl rfl rfl rfl rfl (by kernel_rfl) (by kernel_rfl) (by kernel_rfl) ?_); (refine ga_n 21 (by repeat first | exact NoP.sp | apply NoP.then | apply NoP.block) rfl rfl rfl rfl rfl rfl (by kernel_rfl) (by kernel_rfl) (by kernel_rfl) ?_); (refine ga_n 22 (by repeat first | exact NoP.sp | apply NoP.then | apply NoP.block) rfl rfl rfl rfl rfl rfl (by kernel_rfl) (by kernel_rfl) (by kernel_rfl) ?_); (refine ga_n 23 (by repeat first | exact NoP.sp | apply NoP.then | apply NoP.block) rfl rfl rfl rfl rfl rfl (by kernel_rfl) (by kernel_rfl) (by kernel_rfl) ?_); (refine ga_p 24 (by repeat first | exact NoP.sp | apply NoP.then | apply NoP.block) rfl (pv_spec rfl) rfl (by kernel_rfl) (by kernel_rfl) (by kernel_rfl) ?_); (refine ga_p 25 (by repeat first | exact NoP.sp | apply NoP.then | apply NoP.block) rfl (pv_spec rfl) rfl (by kernel_rfl) (by kernel_rfl) (by kernel_rfl) ?_)
      refine ga_nil (by kernel_rfl) ?_
      repeat' (first | refine gq_then ?_ | refine gc_ret ?_ | refine gq_then_ret ?_ | refine gq_block_ret ?_)
      refine gq_ret1 (.inr rfl) rfl rfl rfl (fun w' H => ⟨_, ?_, rfl, hp_nil H⟩)
      rw [hS, okI3 hop]; simp [h1, h2]
    have h2 : inB x.n f.slots.length = true := h2
    have hb2 : 0 ≤ x.n ∧ x.n < f.slots.length := by simpa [inB] using h2
    have hlx : f.slots[x.n.toNat]? = some (f.slots[x.n.toNat]'(by omega)) := List.getElem?_eq_getElem (by omega)
    have hqm := List.getElem_mem (l := f.slots) (n := x.n.toNat) (by omega)
    generalize f.slots[x.n.toNat]'(by omega) = q at hlx hqm
    obtain ⟨bb, oo, hA, hc⟩ := hf.slots x.n.toNat _ hlx
    (refine ga_py 14 (by repeat first | exact NoP.sp | apply NoP.then | apply NoP.block) rfl rfl rfl rfl (pv_spec rfl) rfl (by kernel_rfl) (by kernel_rfl) (by kernel_rfl) ?_); (refine ga_ld 15 0 (by repeat first | exact NoP.sp | apply NoP.then | apply NoP.block) rfl (wanted_yes rfl rfl rfl) rfl rfl rfl rfl rfl rfl (by kernel_rfl) (by kernel_rfl) (by kernel_rfl) ?_); (refine ga_py 16 (by repeat first | exact NoP.sp | apply NoP.then | apply NoP.block) rfl rfl rfl rfl (pv_spec rfl) rfl (by kernel_rfl) (by kernel_rfl) (by kernel_rfl) ?_); (refine ga_ld 17 1 (by repeat first | exact NoP.sp | apply NoP.then | apply NoP.block) rfl (wanted_yes rfl rfl rfl) rfl rfl rfl rfl rfl rfl (by kernel_rfl) (by kernel_rfl) (by kernel_rfl) ?_); (refine ga_py 18 (by repeat first | exact NoP.sp | apply NoP.then | apply NoP.block) rfl rfl rfl rfl (pv_spec rfl) rfl (by kernel_rfl) (by kernel_rfl) (by kernel_rfl) ?_); (refine ga_ld 19 0 (by repeat first | exact NoP.sp | apply NoP.then | apply NoP.block) rfl (wanted_yes rfl rfl rfl) rfl rfl rfl rfl rfl rfl (by kernel_rfl) (by kernel_rfl) (by kernel_rfl) ?_)
    refine ga_py 20 (by repeat first | exact NoP.sp | apply NoP.then | apply NoP.block) rfl rfl rfl rfl (p_ix (bx := bb) (o := oo) (by show some (Value.slice f.sA _ _) = _; rw [hA]) rfl rfl rfl hb2.1 hb2.2) rfl (by kernel_rfl) (by kernel_rfl) (by kernel_rfl) ?_
    (refine ga_py 21 (by repeat first | exact NoP.sp | apply NoP.then | apply NoP.block) rfl rfl rfl rfl (pv_spec rfl) rfl (by kernel_rfl) (by kernel_rfl) (by kernel_rfl) ?_)
    refine ga_ldO 22 (cs := [.int .i64 q.size]) (by repeat first | exact NoP.sp | apply NoP.then | apply NoP.block) rfl (wanted_yes rfl rfl rfl) rfl rfl rfl rfl (fun k u hk => ?_) rfl (by kernel_rfl) (by kernel_rfl) (by kernel_rfl) ?_
    · have hk0 : k = 0 := by have := (List.getElem?_eq_some_iff.1 hk).1; simp at this; omega
      subst hk0
      simp only [List.getElem?_cons_zero, Option.some.injEq] at hk; subst hk
      exact (old_le0 _ w).cell (hc 0 _ rfl)
    refine ga_one (i := 23) (by kernel_rfl) (gs_of rfl (fun K hK => ?_))
    refine g_yes rfl rfl rfl ?_
    refine g_call rfl (Cl.of Tryz.func30 rfl rfl) rfl rfl (fun w' hE => rwithin_sp _ _ _ w') rfl (fun _ _ => ?_)
    refine g_nil ?_
    refine hK _ _ ⟨[], List.Perm.of_eq rfl⟩ ?_
    (refine ga_p 24 (by repeat first | exact NoP.sp | apply NoP.then | apply NoP.block) rfl (pv_spec rfl) rfl (by kernel_rfl) (by kernel_rfl) (by kernel_rfl) ?_); (refine ga_p 25 (by repeat first | exact NoP.sp | apply NoP.then | apply NoP.block) rfl (pv_spec rfl) rfl (by kernel_rfl) (by kernel_rfl) (by kernel_rfl) ?_)
    refine ga_nil (by kernel_rfl) ?_
    repeat' (first | refine gq_then ?_ | refine gc_ret ?_ | refine gq_then_ret ?_ | refine gq_block_ret ?_)
    refine gq_ret1 (.inr rfl) rfl rfl rfl (fun w' H => ⟨_, ?_, rfl, hp_nil H⟩)
    rw [hS, okI3 hop]; simp only [h1, h2, hlx, Bool.true_and]
    rw [wrap_suc (hfs q hqm)]; exact (inB_lt x.off q.size)
  repeat' (first | refine g_pv rfl rfl ?_ | refine g_nil ?_ | refine gq_then ?_ | refine gc_seq ?_ | refine gc_region ?_)
  refine gc_condC rfl (fun c4 => ?_) (fun c4 => ?_)
  · have hop : x.op = 4 := beq_iff_eq.1 c4
    repeat' (refine gc_seq ?_)
    refine gc_draw [[(b5, .cells ⟨x.cells⟩ 43 (0, 0))], [(b4, .cells ⟨f.cells⟩ 32 (0, 0))], [(b3, .cells ⟨p.cells⟩ 25 (0, 0))]] [] rfl (List.Perm.of_eq rfl) ?_
    (refine ga_ld 0 1 (by repeat first | exact NoP.sp | apply NoP.then | apply NoP.block) rfl wanted_none rfl rfl rfl rfl rfl rfl (by kernel_rfl) (by kernel_rfl) (by kernel_rfl) ?_); (refine ga_p 1 (by repeat first | exact NoP.sp | apply NoP.then | apply NoP.block) rfl (pv_spec rfl) rfl (by kernel_rfl) (by kernel_rfl) (by kernel_rfl) ?_); (refine ga_ld 2 0 (by repeat first | exact NoP.sp | apply NoP.then | apply NoP.block) rfl wanted_none rfl rfl rfl rfl rfl rfl (by kernel_rfl) (by kernel_rfl) (by kernel_rfl) ?_)
    refine ga_one (i := 3) (by kernel_rfl) (gs_of rfl (fun K hK => ?_))
    refine g_call rfl (Cl.of Tryz.func97 rfl rfl) rfl rfl (fun w' hE => rtemp_sp f x.d w') rfl ?_
    rintro q1 h1
    have h1 : inB x.d f.te = q1 := h1.symm
    refine g_nil ?_
    refine hK _ _ ⟨[], List.Perm.of_eq rfl⟩ ?_
    cases q1
    · (refine ga_p 4 (by repeat first | exact NoP.sp | apply NoP.then | apply NoP.block) rfl (pv_spec rfl) rfl (by kernel_rfl) (by kernel_rfl) (by kernel_rfl) ?_); (refine ga_n 5 (by repeat first | exact NoP.sp | apply NoP.then | apply NoP.block) rfl rfl rfl rfl rfl rfl (by kernel_rfl) (by kernel_rfl) (by kernel_rfl) ?_); (refine ga_n 6 (by repeat first | exact NoP.sp | apply NoP.then | apply NoP.block) rfl rfl rfl rfl rfl rfl (by kernel_rfl) (by kernel_rfl) (by kernel_rfl) ?_); (refine ga_n 7 (by repeat first | exact NoP.sp | apply NoP.then | apply NoP.block) rfl rfl rfl rfl rfl rfl (by kernel_rfl) (by kernel_rfl) (by kernel_rfl) ?_); (refine ga_n 8 (by repeat first | exact NoP.sp | apply NoP.then | apply NoP.block) rfl rfl rfl rfl rfl rfl (by kernel_rfl) (by kernel_rfl) (by kernel_rfl) ?_); (refine ga_n 9 (by repeat first | exact NoP.sp | apply NoP.then | apply NoP.block) rfl rfl rfl rfl rfl rfl (by kernel_rfl) (by kernel_rfl) (by kernel_rfl) ?_); (refine ga_n 10 (by repeat first | exact NoP.sp | apply NoP.then | apply NoP.block) rfl rfl rfl rfl rfl rfl (by kernel_rfl) (by kernel_rfl) (by kernel_rfl) ?_); (refine ga_n 11 (by repeat first | exact NoP.sp | apply NoP.then | apply NoP.block) rfl rfl rfl rfl rfl rfl (by kernel_rfl) (by kernel_rfl) (by kernel_rfl) ?_); (refine ga_p 12 (by repeat first | exact NoP.sp | apply NoP.then | apply NoP.block) rfl (pv_spec rfl) rfl (by kernel_rfl) (by kernel_rfl) (by kernel_rfl) ?_); (refine ga_p 13 (by repeat first | exact NoP.sp | apply NoP.then | apply NoP.block) rfl (pv_spec rfl) rfl (by kernel_rfl) (by kernel_rfl) (by kernel_rfl) ?_); (refine ga_n 14 (by repeat first | exact NoP.sp | apply NoP.then | apply NoP.block) rfl rfl rfl rfl rfl rfl (by kernel_rfl) (by kernel_rfl) (by kernel_rfl) ?_); (refine ga_n 15 (by repeat first | exact NoP.sp | apply NoP.then | apply NoP.block) rfl rfl rfl rfl rfl rfl (by kernel_rfl) (by kernel_rfl) (by kernel_rfl) ?_); (refine ga_n 16 (by repeat first | exact NoP.sp | apply NoP.then | apply NoP.block) rfl rfl rfl rfl rfl rfl (by kernel_rfl) (by kernel_rfl) (by kernel_rfl) ?_); (refine ga_n 17 (by repeat first | exact NoP.sp | apply NoP.then | apply NoP.block) rfl rfl rfl rfl rfl rfl (by kernel_rfl) (by kernel_rfl) (by kernel_rfl) ?_); (refine ga_n 18 (by repeat first | exact NoP.sp | apply NoP.then | apply NoP.block) rfl rfl rfl rfl rfl rfl (by kernel_rfl) (by kernel_rfl) (by kernel_rfl) ?_); (refine ga_n 19 (by repeat first | exact NoP.sp | apply NoP.then | apply NoP.block) rfl rfl rfl rfl rfl rfl (by kernel_rfl) (by kernel_rfl) (by kernel_rfl) ?_); (refine ga_n 20 (by repeat first | exact NoP.sp | apply NoP.then | apply NoP.block) rfl rfl rfl rfl rfl rfl (by kernel_rfl) (by kernel_rfl) (by kernel_rfl) ?_); (refine ga_n 21 (by repeat first | exact NoP.sp | apply NoP.then | apply NoP.block) rfl rfl rfl rfl rfl rfl (by kernel_rfl) (by kernel_rfl) (by kernel_rfl) ?_); (refine ga_n 22 (by repeat first | exact NoP.sp | apply NoP.then | apply NoP.block) rfl rfl rfl rfl rfl rfl (by kernel_rfl) (by kernel_rfl) (by kernel_rfl) ?_); (refine ga_n 23 (by repeat first | exact NoP.sp | apply NoP.then | apply NoP.block) rfl rfl rfl rfl rfl rfl (by kernel_rfl) (by kernel_rfl) (by kernel_rfl) ?_); (refine ga_p 24 (by repeat first | exact NoP.sp | apply NoP.then | apply NoP.block) rfl (pv_spec rfl) rfl (by kernel_rfl) (by kernel_rfl) (by kernel_rfl) ?_); (refine ga_p 25 (by repeat first | exact NoP.sp | apply NoP.then | apply NoP.block) rfl (pv_spec rfl) rfl (by kernel_rfl) (by kernel_rfl) (by kernel_rfl) ?_)
      refine ga_nil (by kernel_rfl) ?_
      repeat' (first | refine gq_then ?_ | refine gc_ret ?_ | refine gq_then_ret ?_ | refine gq_block_ret ?_)
      refine gq_ret1 (.inr rfl) rfl rfl rfl (fun w' H => ⟨_, ?_, rfl, hp_nil H⟩)
      rw [hS, okI4 hop]; simp [h1]
    (refine ga_p 4 (by repeat first | exact NoP.sp | apply NoP.then | apply NoP.block) rfl (pv_spec rfl) rfl (by kernel_rfl) (by kernel_rfl) (by kernel_rfl) ?_); (refine ga_py 5 (by repeat first | exact NoP.sp | apply NoP.then | apply NoP.block) rfl rfl rfl rfl (pv_spec rfl) rfl (by kernel_rfl) (by kernel_rfl) (by kernel_rfl) ?_); (refine ga_ld 6 0 (by repeat first | exact NoP.sp | apply NoP.then | apply NoP.block) rfl (wanted_yes rfl rfl rfl) rfl rfl rfl rfl rfl rfl (by kernel_rfl) (by kernel_rfl) (by kernel_rfl) ?_); (refine ga_py 7 (by repeat first | exact NoP.sp | apply NoP.then | apply NoP.block) rfl rfl rfl rfl (pv_spec rfl) rfl (by kernel_rfl) (by kernel_rfl) (by kernel_rfl) ?_); (refine ga_ld 8 2 (by repeat first | exact NoP.sp | apply NoP.then | apply NoP.block) rfl (wanted_yes rfl rfl rfl) rfl rfl rfl rfl rfl rfl (by kernel_rfl) (by kernel_rfl) (by kernel_rfl) ?_); (refine ga_py 9 (by repeat first | exact NoP.sp | apply NoP.then | apply NoP.block) rfl rfl rfl rfl (pv_spec rfl) rfl (by kernel_rfl) (by kernel_rfl) (by kernel_rfl) ?_); (refine ga_py 10 (by repeat first | exact NoP.sp | apply NoP.then | apply NoP.block) rfl rfl rfl rfl (pv_spec rfl) rfl (by kernel_rfl) (by kernel_rfl) (by kernel_rfl) ?_)
    refine ga_eq 99 (u' := .int .i64 ((p.obs.length : Int) - 1)) rfl (by rw [IntKind.wrap_i64]; congr 1; omega) ?_
    refine ga_one (i := 11) (by kernel_rfl) (gs_of rfl (fun K hK => ?_))
    refine g_yes rfl rfl rfl ?_
    refine g_call rfl (Cl.of Tryz.func30 rfl rfl) rfl rfl (fun w' hE => rwithin_sp _ _ _ w') rfl (fun _ _ => ?_)
    refine g_eq 100 (u' := .bool (inB x.n p.obs.length)) rfl (by rw [inB_le]) ?_
    refine g_nil ?_
    refine hK _ _ ⟨[], List.Perm.of_eq rfl⟩ ?_
    (refine ga_p 12 (by repeat first | exact NoP.sp | apply NoP.then | apply NoP.block) rfl (pv_spec rfl) rfl (by kernel_rfl) (by kernel_rfl) (by kernel_rfl) ?_); (refine ga_p 13 (by repeat first | exact NoP.sp | apply NoP.then | apply NoP.block) rfl (pv_spec rfl) rfl (by kernel_rfl) (by kernel_rfl) (by kernel_rfl) ?_)
    refine ga_case (t := 102) rfl (fun h2 => ?_) (fun h2 => ?_)
    rotate_left
    · have h2 : inB x.n p.obs.length = false := h2
      (refine ga_n 14 (by repeat first | exact NoP.sp | apply NoP.then | apply NoP.block) rfl rfl rfl rfl rfl rfl (by kernel_rfl) (by kernel_rfl) (by kernel_rfl) ?_); (refine ga_n 15 (by repeat first | exact NoP.sp | apply NoP.then | apply NoP.block) rfl rfl rfl rfl rfl rfl (by kernel_rfl) (by kernel_rfl) (by kernel_rfl) ?_); (refine ga_n 16 (by repeat first | exact NoP.sp | apply NoP.then | apply NoP.block) rfl rfl rfl rfl rfl rfl (by kernel_rfl) (by kernel_rfl) (by kernel_rfl) ?_); (refine ga_n 17 (by repeat first | exact NoP.sp | apply NoP.then | apply NoP.block) rfl rfl rfl rfl rfl rfl (by kernel_rfl) (by kernel_rfl) (by kernel_rfl) ?_); (refine ga_n 18 (by repeat first | exact NoP.sp | apply NoP.then | apply NoP.block) rfl rfl rfl rfl rfl rfl (by kernel_rfl) (by kernel_rfl) (by kernel_rfl) ?_); (refine ga_n 19 (by repeat first | exact NoP.sp | apply NoP.then | apply NoP.block) rfl rfl rfl rfl rfl rfl (by kernel_rfl) (by kernel_rfl) (by kernel_rfl) ?_); (refine ga_n 20 (by repeat first | exact NoP.sp | apply NoP.then | apply NoP.block) rfl rfl rfl rfl rfl rfl (by kernel_rfl) (by kernel_rfl) (by kernel_rfl) ?_); (refine ga_n 21 (by repeat first | exact NoP.sp | apply NoP.then | apply NoP.block) rfl rfl rfl rfl rfl rfl (by kernel_rfl) (by kernel_rfl) (by kernel_rfl) ?_); (refine ga_n 22 (by repeat first | exact NoP.sp | apply NoP.then | apply NoP.block) rfl rfl rfl rfl rfl rfl (by kernel_rfl) (by kernel_rfl) (by kernel_rfl) ?_); (refine ga_n 23 (by repeat first | exact NoP.sp | apply NoP.then | apply NoP.block) rfl rfl rfl rfl rfl rfl (by kernel_rfl) (by kernel_rfl) (by kernel_rfl) ?_); (refine ga_p 24 (by repeat first | exact NoP.sp | apply NoP.then | apply NoP.block) rfl (pv_spec rfl) rfl (by kernel_rfl) (by kernel_rfl) (by kernel_rfl) ?_); (refine ga_p 25 (by repeat first | exact NoP.sp | apply NoP.then | apply NoP.block) rfl (pv_spec rfl) rfl (by kernel_rfl) (by kernel_rfl) (by kernel_rfl) ?_)
      refine ga_nil (by kernel_rfl) ?_
      repeat' (first | refine gq_then ?_ | refine gc_ret ?_ | refine gq_then_ret ?_ | refine gq_block_ret ?_)
      refine gq_ret1 (.inr rfl) rfl rfl rfl (fun w' H => ⟨_, ?_, rfl, hp_nil H⟩)
      rw [hS, okI4 hop]; simp [h1, h2]
    have h2 : inB x.n p.obs.length = true := h2
    have hb2 : 0 ≤ x.n ∧ x.n < p.obs.length := by simpa [inB] using h2
    have hlx : p.obs[x.n.toNat]? = some (p.obs[x.n.toNat]'(by omega)) := List.getElem?_eq_getElem (by omega)
    have hqm := List.getElem_mem (l := p.obs) (n := x.n.toNat) (by omega)
    generalize p.obs[x.n.toNat]'(by omega) = q at hlx hqm
    obtain ⟨bb, oo, hA, hc⟩ := hp.obs x.n.toNat _ hlx
    (refine ga_py 14 (by repeat first | exact NoP.sp | apply NoP.then | apply NoP.block) rfl rfl rfl rfl (pv_spec rfl) rfl (by kernel_rfl) (by kernel_rfl) (by kernel_rfl) ?_); (refine ga_ld 15 0 (by repeat first | exact NoP.sp | apply NoP.then | apply NoP.block) rfl (wanted_yes rfl rfl rfl) rfl rfl rfl rfl rfl rfl (by kernel_rfl) (by kernel_rfl) (by kernel_rfl) ?_); (refine ga_py 16 (by repeat first | exact NoP.sp | apply NoP.then | apply NoP.block) rfl rfl rfl rfl (pv_spec rfl) rfl (by kernel_rfl) (by kernel_rfl) (by kernel_rfl) ?_); (refine ga_ld 17 2 (by repeat first | exact NoP.sp | apply NoP.then | apply NoP.block) rfl (wanted_yes rfl rfl rfl) rfl rfl rfl rfl rfl rfl (by kernel_rfl) (by kernel_rfl) (by kernel_rfl) ?_); (refine ga_py 18 (by repeat first | exact NoP.sp | apply NoP.then | apply NoP.block) rfl rfl rfl rfl (pv_spec rfl) rfl (by kernel_rfl) (by kernel_rfl) (by kernel_rfl) ?_); (refine ga_ld 19 0 (by repeat first | exact NoP.sp | apply NoP.then | apply NoP.block) rfl (wanted_yes rfl rfl rfl) rfl rfl rfl rfl rfl rfl (by kernel_rfl) (by kernel_rfl) (by kernel_rfl) ?_)
    refine ga_py 20 (by repeat first | exact NoP.sp | apply NoP.then | apply NoP.block) rfl rfl rfl rfl (p_ix (bx := bb) (o := oo) (by show some (Value.slice p.oA _ _) = _; rw [hA]) rfl rfl rfl hb2.1 hb2.2) rfl (by kernel_rfl) (by kernel_rfl) (by kernel_rfl) ?_
    (refine ga_py 21 (by repeat first | exact NoP.sp | apply NoP.then | apply NoP.block) rfl rfl rfl rfl (pv_spec rfl) rfl (by kernel_rfl) (by kernel_rfl) (by kernel_rfl) ?_)
    refine ga_ldO 22 (cs := [.int .i64 q.size]) (by repeat first | exact NoP.sp | apply NoP.then | apply NoP.block) rfl (wanted_yes rfl rfl rfl) rfl rfl rfl rfl (fun k u hk => ?_) rfl (by kernel_rfl) (by kernel_rfl) (by kernel_rfl) ?_
    · have hk0 : k = 0 := by have := (List.getElem?_eq_some_iff.1 hk).1; simp at this; omega
      subst hk0
      simp only [List.getElem?_cons_zero, Option.some.injEq] at hk; subst hk
      exact (old_le0 _ w).cell (hc 1 _ rfl)
    refine ga_one (i := 23) (by kernel_rfl) (gs_of rfl (fun K hK => ?_))
    refine g_yes rfl rfl rfl ?_
    refine g_call rfl (Cl.of Tryz.func30 rfl rfl) rfl rfl (fun w' hE => rwithin_sp _ _ _ w') rfl (fun _ _ => ?_)
    refine g_nil ?_
    refine hK _ _ ⟨[], List.Perm.of_eq rfl⟩ ?_
    (refine ga_p 24 (by repeat first | exact NoP.sp | apply NoP.then | apply NoP.block) rfl (pv_spec rfl) rfl (by kernel_rfl) (by kernel_rfl) (by kernel_rfl) ?_); (refine ga_p 25 (by repeat first | exact NoP.sp | apply NoP.then | apply NoP.block) rfl (pv_spec rfl) rfl (by kernel_rfl) (by kernel_rfl) (by kernel_rfl) ?_)
    refine ga_nil (by kernel_rfl) ?_
    repeat' (first | refine gq_then ?_ | refine gc_ret ?_ | refine gq_then_ret ?_ | refine gq_block_ret ?_)
    refine gq_ret1 (.inr rfl) rfl rfl rfl (fun w' H => ⟨_, ?_, rfl, hp_nil H⟩)
    rw [hS, okI4 hop]; simp only [h1, h2, hlx, Bool.true_and]
    rw [wrap_suc (hps q hqm)]; exact (inB_lt x.off q.size)
  repeat' (first | refine g_pv rfl rfl ?_ | refine g_nil ?_ | refine gq_then ?_ | refine gc_seq ?_ | refine gc_region ?_)
  refine gc_condC rfl (fun c5 => ?_) (fun c5 => ?_)
  · have hop : x.op = 5 := beq_iff_eq.1 c5
    repeat' (first | refine g_pv rfl rfl ?_ | refine g_ld 0 rfl rfl rfl rfl rfl rfl ?_ | refine g_ld 1 rfl rfl rfl rfl rfl rfl ?_ | refine gc_seq ?_ | refine gc_region ?_)
    refine g_call rfl (Cl.of Tryz.func97 rfl rfl) rfl rfl (fun w' hE => rtemp_sp f x.d w') rfl ?_
    rintro q7 hq7
    have hq7 : inB x.d f.te = q7 := hq7.symm
    cases q7
    · -- no
      repeat' (first | refine g_pv rfl rfl ?_ | refine g_nil ?_ | refine gq_then ?_ | refine gc_ret ?_ | refine gq_then_ret ?_ | refine gq_block_ret ?_ | refine g_no rfl rfl rfl rfl rfl ?_)
      refine gq_ret1 (.inr rfl) rfl rfl rfl (fun w' H => ⟨_, ?_, rfl, hp_nil H⟩)
      rw [hS, okI5 hop]; simp [hq7]
    repeat' (first | refine g_pv rfl rfl ?_ | refine g_ld 0 rfl rfl rfl rfl rfl rfl ?_ | refine g_ld 1 rfl rfl rfl rfl rfl rfl ?_ | refine g_yes rfl rfl rfl ?_)
    refine g_call rfl (Cl.of Tryz.func98 rfl rfl) rfl rfl (fun w' hE => rarg_sp f x.a w' (hx.ok x.a (by simp)) hf.te) rfl ?_
    rintro q8 hq8
    have hq8 : argB f.te x.a = q8 := hq8.symm
    cases q8
    · -- no
      repeat' (first | refine g_pv rfl rfl ?_ | refine g_nil ?_ | refine gq_then ?_ | refine gc_ret ?_ | refine gq_then_ret ?_ | refine gq_block_ret ?_ | refine g_no rfl rfl rfl rfl rfl ?_)
      refine gq_ret1 (.inr rfl) rfl rfl rfl (fun w' H => ⟨_, ?_, rfl, hp_nil H⟩)
      rw [hS, okI5 hop]; simp [hq7, hq8]
    repeat' (first | refine g_pv rfl rfl ?_ | refine g_ld 0 rfl rfl rfl rfl rfl rfl ?_ | refine g_yes rfl rfl rfl ?_)
    refine g_call rfl (Cl.of Tryz.func30 rfl rfl) rfl rfl (fun w' hE => rwithin_sp _ _ _ w') rfl (fun _ _ => ?_)
    refine g_eq 129 (u' := .bool (rngB x.off (-16384) 16384)) rfl rfl ?_
    repeat' (refine g_pv rfl rfl ?_)
    refine g_case (t := 131) rfl (fun h9 => ?_) (fun h9 => ?_)
    rotate_left
    · have h9 : rngB x.off (-16384) 16384 = false := h9
      repeat' (first | refine g_pv rfl rfl ?_ | refine g_nil ?_ | refine gq_then ?_ | refine gc_ret ?_ | refine gq_then_ret ?_ | refine gq_block_ret ?_ | refine g_no rfl rfl rfl rfl rfl ?_)
      refine gq_ret1 (.inr rfl) rfl rfl rfl (fun w' H => ⟨_, ?_, rfl, hp_nil H⟩)
      rw [hS, okI5 hop]; simp [hq7, hq8, h9]
    have h9 : rngB x.off (-16384) 16384 = true := h9
    repeat' (first | refine g_pv rfl rfl ?_ | refine g_ld 0 rfl rfl rfl rfl rfl rfl ?_ | refine g_yes rfl rfl rfl ?_)
    refine g_call rfl (Cl.of Tryz.func53 rfl rfl) rfl rfl (fun w' hE => rpower_sp x.width w') rfl ?_
    rintro q10 hq10
    have hq10 : powB x.width = q10 := hq10.symm
    cases q10
    · -- no
      repeat' (first | refine g_pv rfl rfl ?_ | refine g_nil ?_ | refine gq_then ?_ | refine gc_ret ?_ | refine gq_then_ret ?_ | refine gq_block_ret ?_ | refine g_no rfl rfl rfl rfl rfl ?_)
      refine gq_ret1 (.inr rfl) rfl rfl rfl (fun w' H => ⟨_, ?_, rfl, hp_nil H⟩)
      rw [hS, okI5 hop]; simp [hq7, hq8, h9, hq10]
    repeat' (first | refine g_pv rfl rfl ?_ | refine g_ld 0 rfl rfl rfl rfl rfl rfl ?_ | refine g_yes rfl rfl rfl ?_)
    have hw4 := powB_lt hq10
    refine g_case (t := 139) rfl (fun h11 => ?_) (fun h11 => ?_)
    · have h11 : x.signed = true := h11
      repeat' (first | refine g_pv rfl rfl ?_ | refine g_ld 0 rfl rfl rfl rfl rfl rfl ?_ | refine g_nil ?_ | refine gq_then ?_ | refine gc_ret ?_ | refine gq_then_ret ?_ | refine gq_block_ret ?_ | refine g_yes rfl rfl rfl ?_)
      refine gq_ret1 (.inr rfl) rfl rfl rfl (fun w' H => ⟨_, ?_, rfl, hp_nil H⟩)
      rw [hS, okI5 hop]; simp [hq7, hq8, h9, hq10, h11, hw4]
    · have h11 : x.signed = false := h11
      repeat' (first | refine g_pv rfl rfl ?_ | refine g_nil ?_ | refine gq_then ?_ | refine gc_ret ?_ | refine gq_then_ret ?_ | refine gq_block_ret ?_ | refine g_yes rfl rfl rfl ?_ | refine g_no rfl rfl rfl rfl rfl ?_)
      refine gq_ret1 (.inr rfl) rfl rfl rfl (fun w' H => ⟨_, ?_, rfl, hp_nil H⟩)
      rw [hS, okI5 hop]; simp [hq7, hq8, h9, hq10, h11]
  repeat' (first | refine g_pv rfl rfl ?_ | refine g_nil ?_ | refine gq_then ?_ | refine gc_seq ?_ | refine gc_region ?_)
  refine gc_condC rfl (fun c6 => ?_) (fun c6 => ?_)
  · have hop : x.op = 6 := beq_iff_eq.1 c6
    repeat' (first | refine g_pv rfl rfl ?_ | refine g_ld 0 rfl rfl rfl rfl rfl rfl ?_ | refine g_ld 1 rfl rfl rfl rfl rfl rfl ?_ | refine gc_seq ?_ | refine gc_region ?_)
    refine g_call rfl (Cl.of Tryz.func98 rfl rfl) rfl rfl (fun w' hE => rarg_sp f x.a w' (hx.ok x.a (by simp)) hf.te) rfl ?_
    rintro q12 hq12
    have hq12 : argB f.te x.a = q12 := hq12.symm
    cases q12
    · -- no
      repeat' (first | refine g_pv rfl rfl ?_ | refine g_nil ?_ | refine gq_then ?_ | refine gc_ret ?_ | refine gq_then_ret ?_ | refine gq_block_ret ?_ | refine g_no rfl rfl rfl rfl rfl ?_)
      refine gq_ret1 (.inr rfl) rfl rfl rfl (fun w' H => ⟨_, ?_, rfl, hp_nil H⟩)
      rw [hS, okI6 hop]; simp [hq12]
    repeat' (first | refine g_pv rfl rfl ?_ | refine g_ld 0 rfl rfl rfl rfl rfl rfl ?_ | refine g_ld 1 rfl rfl rfl rfl rfl rfl ?_ | refine g_yes rfl rfl rfl ?_)
    refine g_call rfl (Cl.of Tryz.func98 rfl rfl) rfl rfl (fun w' hE => rarg_sp f x.b w' (hx.ok x.b (by simp)) hf.te) rfl ?_
    rintro q13 hq13
    have hq13 : argB f.te x.b = q13 := hq13.symm
    cases q13
    · -- no
      repeat' (first | refine g_pv rfl rfl ?_ | refine g_nil ?_ | refine gq_then ?_ | refine gc_ret ?_ | refine gq_then_ret ?_ | refine gq_block_ret ?_ | refine g_no rfl rfl rfl rfl rfl ?_)
      refine gq_ret1 (.inr rfl) rfl rfl rfl (fun w' H => ⟨_, ?_, rfl, hp_nil H⟩)
      rw [hS, okI6 hop]; simp [hq12, hq13]
    repeat' (first | refine g_pv rfl rfl ?_ | refine g_ld 0 rfl rfl rfl rfl rfl rfl ?_ | refine g_yes rfl rfl rfl ?_)
    refine g_call rfl (Cl.of Tryz.func30 rfl rfl) rfl rfl (fun w' hE => rwithin_sp _ _ _ w') rfl (fun _ _ => ?_)
    refine g_eq 161 (u' := .bool (rngB x.off (-16384) 16384)) rfl rfl ?_
    repeat' (refine g_pv rfl rfl ?_)
    refine g_case (t := 163) rfl (fun h14 => ?_) (fun h14 => ?_)
    rotate_left
    · have h14 : rngB x.off (-16384) 16384 = false := h14
      repeat' (first | refine g_pv rfl rfl ?_ | refine g_nil ?_ | refine gq_then ?_ | refine gc_ret ?_ | refine gq_then_ret ?_ | refine gq_block_ret ?_ | refine g_no rfl rfl rfl rfl rfl ?_)
      refine gq_ret1 (.inr rfl) rfl rfl rfl (fun w' H => ⟨_, ?_, rfl, hp_nil H⟩)
      rw [hS, okI6 hop]; simp [hq12, hq13, h14]
    have h14 : rngB x.off (-16384) 16384 = true := h14
    repeat' (first | refine g_pv rfl rfl ?_ | refine g_ld 0 rfl rfl rfl rfl rfl rfl ?_ | refine g_yes rfl rfl rfl ?_)
    refine g_call rfl (Cl.of Tryz.func53 rfl rfl) rfl rfl (fun w' hE => rpower_sp x.width w') rfl ?_
    rintro q15 hq15
    have hq15 : q15 = powB x.width := hq15
    repeat' (first | refine g_pv rfl rfl ?_ | refine g_nil ?_ | refine gq_then ?_ | refine gc_ret ?_ | refine gq_then_ret ?_ | refine gq_block_ret ?_)
    refine gq_ret1 (.inr rfl) rfl rfl rfl (fun w' H => ⟨q15, ?_, rfl, hp_nil H⟩)
    rw [hS, okI6 hop, hq15]; simp [hq12, hq13, h14]
  repeat' (first | refine g_pv rfl rfl ?_ | refine g_nil ?_ | refine gq_then ?_ | refine gc_seq ?_ | refine gc_region ?_)
  refine gc_condC rfl (fun c7 => ?_) (fun c7 => ?_)
  · have hop : x.op = 7 := beq_iff_eq.1 c7
    repeat' (first | refine g_pv rfl rfl ?_ | refine g_ld 0 rfl rfl rfl rfl rfl rfl ?_ | refine g_ld 1 rfl rfl rfl rfl rfl rfl ?_ | refine gc_seq ?_ | refine gc_region ?_)
    refine g_call rfl (Cl.of Tryz.func98 rfl rfl) rfl rfl (fun w' hE => rarg_sp f x.a w' (hx.ok x.a (by simp)) hf.te) rfl ?_
    rintro q16 hq16
    have hq16 : argB f.te x.a = q16 := hq16.symm
    cases q16
    · -- no
      repeat' (first | refine g_pv rfl rfl ?_ | refine g_nil ?_ | refine gq_then ?_ | refine gc_ret ?_ | refine gq_then_ret ?_ | refine gq_block_ret ?_ | refine g_no rfl rfl rfl rfl rfl ?_)
      refine gq_ret1 (.inr rfl) rfl rfl rfl (fun w' H => ⟨_, ?_, rfl, hp_nil H⟩)
      rw [hS, okI7 hop]; simp [hq16]
    repeat' (first | refine g_pv rfl rfl ?_ | refine g_ld 0 rfl rfl rfl rfl rfl rfl ?_ | refine g_ld 1 rfl rfl rfl rfl rfl rfl ?_ | refine g_yes rfl rfl rfl ?_)
    refine g_call rfl (Cl.of Tryz.func98 rfl rfl) rfl rfl (fun w' hE => rarg_sp f x.b w' (hx.ok x.b (by simp)) hf.te) rfl ?_
    rintro q17 hq17
    have hq17 : argB f.te x.b = q17 := hq17.symm
    cases q17
    · -- no
      repeat' (first | refine g_pv rfl rfl ?_ | refine g_nil ?_ | refine gq_then ?_ | refine gc_ret ?_ | refine gq_then_ret ?_ | refine gq_block_ret ?_ | refine g_no rfl rfl rfl rfl rfl ?_)
      refine gq_ret1 (.inr rfl) rfl rfl rfl (fun w' H => ⟨_, ?_, rfl, hp_nil H⟩)
      rw [hS, okI7 hop]; simp [hq16, hq17]
    repeat' (first | refine g_pv rfl rfl ?_ | refine g_ld 0 rfl rfl rfl rfl rfl rfl ?_ | refine g_yes rfl rfl rfl ?_)
    refine g_call rfl (Cl.of Tryz.func53 rfl rfl) rfl rfl (fun w' hE => rpower_sp x.width w') rfl ?_
    rintro q18 hq18
    have hq18 : powB x.width = q18 := hq18.symm
    cases q18
    · -- no
      repeat' (first | refine g_pv rfl rfl ?_ | refine g_nil ?_ | refine gq_then ?_ | refine gc_ret ?_ | refine gq_then_ret ?_ | refine gq_block_ret ?_ | refine g_no rfl rfl rfl rfl rfl ?_)
      refine gq_ret1 (.inr rfl) rfl rfl rfl (fun w' H => ⟨_, ?_, rfl, hp_nil H⟩)
      rw [hS, okI7 hop]; simp [hq16, hq17, hq18]
    repeat' (first | refine g_pv rfl rfl ?_ | refine g_ld 0 rfl rfl rfl rfl rfl rfl ?_ | refine g_yes rfl rfl rfl ?_)
    refine g_call rfl (Cl.of Tryz.func30 rfl rfl) rfl rfl (fun w' hE => rwithin_sp _ _ _ w') rfl (fun _ _ => ?_)
    refine g_eq 188 (u' := .bool (rngB x.off (1) 16384)) rfl rfl ?_
    repeat' (refine g_pv rfl rfl ?_)
    refine g_case (t := 190) rfl (fun h19 => ?_) (fun h19 => ?_)
    rotate_left
    · have h19 : rngB x.off (1) 16384 = false := h19
      repeat' (first | refine g_pv rfl rfl ?_ | refine g_nil ?_ | refine gq_then ?_ | refine gc_ret ?_ | refine gq_then_ret ?_ | refine gq_block_ret ?_ | refine g_no rfl rfl rfl rfl rfl ?_)
      refine gq_ret1 (.inr rfl) rfl rfl rfl (fun w' H => ⟨_, ?_, rfl, hp_nil H⟩)
      rw [hS, okI7 hop]; simp [hq16, hq17, hq18, h19]
    have h19 : rngB x.off (1) 16384 = true := h19
    repeat' (first | refine g_pv rfl rfl ?_ | refine g_ld 0 rfl rfl rfl rfl rfl rfl ?_ | refine g_yes rfl rfl rfl ?_)
    have hne : x.width ≠ 0 := by
      intro h0; rw [h0] at hq18; exact absurd hq18 (by decide)
    refine g_p (p_rem rfl rfl hne) rfl ?_
    repeat' (first | refine g_pv rfl rfl ?_ | refine g_nil ?_ | refine gq_then ?_ | refine gc_ret ?_ | refine gq_then_ret ?_ | refine gq_block_ret ?_ | refine g_yes rfl rfl rfl ?_)
    refine gq_ret1 (.inr rfl) rfl rfl rfl (fun w' H => ⟨_, ?_, rfl, hp_nil H⟩)
    rw [hS, okI7 hop]; simp [hq16, hq17, hq18, h19]
  repeat' (first | refine g_pv rfl rfl ?_ | refine g_nil ?_ | refine gq_then ?_ | refine gc_seq ?_ | refine gc_region ?_)
  refine gc_condC rfl (fun c8 => ?_) (fun c8 => ?_)
  · have hop : x.op = 8 := beq_iff_eq.1 c8
    repeat' (first | refine g_ld 0 rfl rfl rfl rfl rfl rfl ?_ | refine g_ld 1 rfl rfl rfl rfl rfl rfl ?_ | refine g_ld 2 rfl rfl rfl rfl rfl rfl ?_ | refine gc_seq ?_ | refine gc_region ?_)
    refine g_call rfl (Cl.of Tryz.func100 rfl rfl) rfl rfl (fun w' hE => rcall_sp p f x w' (hp.le (fun b o h => old_le hE b o (old_le0 _ w b o h))) hf.te (hx.le (fun b o h => old_le hE b o (old_le0 _ w b o h)))) rfl ?_
    rintro q20 hq20
    have hq20 : q20 = rcallB p f x := hq20
    repeat' (first | refine g_pv rfl rfl ?_ | refine g_nil ?_ | refine gq_then ?_ | refine gc_ret ?_ | refine gq_then_ret ?_ | refine gq_block_ret ?_)
    refine gq_ret1 (.inr rfl) rfl rfl rfl (fun w' H => ⟨q20, ?_, rfl, hp_nil H⟩)
    rw [hS, okI8 hop, hq20]
  repeat' (first | refine g_pv rfl rfl ?_ | refine g_nil ?_ | refine gq_then ?_ | refine gc_seq ?_ | refine gc_region ?_)
  refine gc_condC rfl (fun c9 => ?_) (fun c9 => ?_)
  · have hop : x.op = 9 := beq_iff_eq.1 c9
    repeat' (first | refine g_pv rfl rfl ?_ | refine g_ld 1 rfl rfl rfl rfl rfl rfl ?_ | refine gc_seq ?_ | refine gc_region ?_)
    refine g_case (t := 208) rfl (fun h21 => ?_) (fun h21 => ?_)
    · have h21 : f.gi = true := h21
      repeat' (first | refine g_pv rfl rfl ?_ | refine g_ld 0 rfl rfl rfl rfl rfl rfl ?_ | refine g_ld 1 rfl rfl rfl rfl rfl rfl ?_ | refine g_yes rfl rfl rfl ?_)
      refine g_call rfl (Cl.of Tryz.func98 rfl rfl) rfl rfl (fun w' hE => rarg_sp f x.a w' (hx.ok x.a (by simp)) hf.te) rfl ?_
      rintro q22 hq22
      have hq22 : argB f.te x.a = q22 := hq22.symm
      cases q22
      · repeat' (first | refine g_pv rfl rfl ?_ | refine g_ld 1 rfl rfl rfl rfl rfl rfl ?_ | refine g_yes rfl rfl rfl ?_)
        refine g_eq 218 (u' := .bool false) rfl (by rw [h21]; rfl) ?_
        repeat' (first | refine g_pv rfl rfl ?_ | refine g_nil ?_ | refine gq_then ?_ | refine gc_ret ?_ | refine gq_then_ret ?_ | refine gq_block_ret ?_ | refine g_yes rfl rfl rfl ?_ | refine g_no rfl rfl rfl rfl rfl ?_)
        refine gq_ret1 (.inr rfl) rfl rfl rfl (fun w' H => ⟨_, ?_, rfl, hp_nil H⟩)
        rw [hS, okI9 hop]; simp [h21, hq22]
      · -- yes
        repeat' (first | refine g_pv rfl rfl ?_ | refine g_nil ?_ | refine gq_then ?_ | refine gc_ret ?_ | refine gq_then_ret ?_ | refine gq_block_ret ?_ | refine g_no rfl rfl rfl rfl rfl ?_)
        refine gq_ret1 (.inr rfl) rfl rfl rfl (fun w' H => ⟨_, ?_, rfl, hp_nil H⟩)
        rw [hS, okI9 hop]; simp [h21, hq22]
    · have h21 : f.gi = false := h21
      repeat' (first | refine g_pv rfl rfl ?_ | refine g_ld 1 rfl rfl rfl rfl rfl rfl ?_ | refine g_yes rfl rfl rfl ?_ | refine g_no rfl rfl rfl rfl rfl ?_)
      refine g_eq 218 (u' := .bool true) rfl (by rw [h21]; rfl) ?_
      repeat' (first | refine g_pv rfl rfl ?_ | refine g_ld 0 rfl rfl rfl rfl rfl rfl ?_ | refine g_yes rfl rfl rfl ?_)
      refine g_call rfl (Cl.of Tryz.func101 rfl rfl) rfl rfl (fun w' hE => rnone_sp x.a w') rfl ?_
      rintro q23 hq23
      have hq23 : q23 = (x.a.k == 0 && x.a.n == 0) := hq23
      repeat' (first | refine g_pv rfl rfl ?_ | refine g_nil ?_ | refine gq_then ?_ | refine gc_ret ?_ | refine gq_then_ret ?_ | refine gq_block_ret ?_ | refine g_yes rfl rfl rfl ?_)
      refine gq_ret1 (.inr rfl) rfl rfl rfl (fun w' H => ⟨q23, ?_, rfl, hp_nil H⟩)
      rw [hS, okI9 hop, hq23]; simp [h21]
  repeat' (first | refine g_pv rfl rfl ?_ | refine g_nil ?_ | refine gq_then ?_ | refine gc_seq ?_ | refine gc_region ?_)
  refine gc_condC rfl (fun c10 => ?_) (fun c10 => ?_)
  · have hop : x.op = 10 := beq_iff_eq.1 c10
    repeat' (first | refine g_pv rfl rfl ?_ | refine g_ld 0 rfl rfl rfl rfl rfl rfl ?_ | refine g_ld 1 rfl rfl rfl rfl rfl rfl ?_ | refine gc_seq ?_ | refine gc_region ?_)
    refine g_eq 231 (u' := .int .i64 ((f.code.length : Int) - 1)) rfl (by rw [IntKind.wrap_i64]; congr 1; omega) ?_
    refine g_call rfl (Cl.of Tryz.func30 rfl rfl) rfl rfl (fun w' hE => rwithin_sp _ _ _ w') rfl (fun _ _ => ?_)
    refine g_eq 232 (u' := .bool (inB x.n f.code.length)) rfl (by rw [inB_le]) ?_
    repeat' (first | refine g_pv rfl rfl ?_ | refine g_nil ?_ | refine gq_then ?_ | refine gc_ret ?_ | refine gq_then_ret ?_ | refine gq_block_ret ?_)
    refine gq_ret1 (.inr rfl) rfl rfl rfl (fun w' H => ⟨_, ?_, rfl, hp_nil H⟩)
    rw [hS, okI10 hop]
  repeat' (first | refine g_pv rfl rfl ?_ | refine g_nil ?_ | refine gq_then ?_ | refine gc_seq ?_ | refine gc_region ?_)
  refine gc_condC rfl (fun c11 => ?_) (fun c11 => ?_)
  · have hop : x.op = 11 := beq_iff_eq.1 c11
    repeat' (first | refine g_pv rfl rfl ?_ | refine g_ld 0 rfl rfl rfl rfl rfl rfl ?_ | refine g_ld 1 rfl rfl rfl rfl rfl rfl ?_ | refine gc_seq ?_ | refine gc_region ?_)
    refine g_eq 240 (u' := .int .i64 ((f.code.length : Int) - 1)) rfl (by rw [IntKind.wrap_i64]; congr 1; omega) ?_
    refine g_call rfl (Cl.of Tryz.func30 rfl rfl) rfl rfl (fun w' hE => rwithin_sp _ _ _ w') rfl (fun _ _ => ?_)
    refine g_eq 241 (u' := .bool (inB x.n f.code.length)) rfl (by rw [inB_le]) ?_
    repeat' (refine g_pv rfl rfl ?_)
    refine g_case (t := 242) rfl (fun h24 => ?_) (fun h24 => ?_)
    rotate_left
    · have h24 : inB x.n f.code.length = false := h24
      repeat' (first | refine g_pv rfl rfl ?_ | refine g_nil ?_ | refine gq_then ?_ | refine gc_ret ?_ | refine gq_then_ret ?_ | refine gq_block_ret ?_ | refine g_no rfl rfl rfl rfl rfl ?_)
      refine gq_ret1 (.inr rfl) rfl rfl rfl (fun w' H => ⟨_, ?_, rfl, hp_nil H⟩)
      rw [hS, okI11 hop]; simp [h24]
    have h24 : inB x.n f.code.length = true := h24
    repeat' (first | refine g_pv rfl rfl ?_ | refine g_ld 0 rfl rfl rfl rfl rfl rfl ?_ | refine g_ld 1 rfl rfl rfl rfl rfl rfl ?_ | refine g_yes rfl rfl rfl ?_)
    refine g_call rfl (Cl.of Tryz.func98 rfl rfl) rfl rfl (fun w' hE => rarg_sp f x.a w' (hx.ok x.a (by simp)) hf.te) rfl ?_
    rintro q25 hq25
    have hq25 : q25 = argB f.te x.a := hq25
    repeat' (first | refine g_pv rfl rfl ?_ | refine g_nil ?_ | refine gq_then ?_ | refine gc_ret ?_ | refine gq_then_ret ?_ | refine gq_block_ret ?_)
    refine gq_ret1 (.inr rfl) rfl rfl rfl (fun w' H => ⟨q25, ?_, rfl, hp_nil H⟩)
    rw [hS, okI11 hop, hq25]; simp [h24]
  repeat' (first | refine g_pv rfl rfl ?_ | refine g_nil ?_ | refine gq_then ?_ | refine gc_seq ?_ | refine gc_region ?_)
  refine gc_condC rfl (fun c13 => ?_) (fun c13 => ?_)
  · have hop : x.op = 13 := beq_iff_eq.1 c13
    repeat' (first | refine g_pv rfl rfl ?_ | refine g_ld 0 rfl rfl rfl rfl rfl rfl ?_ | refine g_ld 1 rfl rfl rfl rfl rfl rfl ?_ | refine gc_seq ?_ | refine gc_region ?_)
    refine g_call rfl (Cl.of Tryz.func97 rfl rfl) rfl rfl (fun w' hE => rtemp_sp f x.d w') rfl ?_
    rintro q26 hq26
    have hq26 : q26 = inB x.d f.te := hq26
    repeat' (first | refine g_pv rfl rfl ?_ | refine g_nil ?_ | refine gq_then ?_ | refine gc_ret ?_ | refine gq_then_ret ?_ | refine gq_block_ret ?_)
    refine gq_ret1 (.inr rfl) rfl rfl rfl (fun w' H => ⟨q26, ?_, rfl, hp_nil H⟩)
    rw [hS, okI13 hop, hq26]
  repeat' (first | refine g_pv rfl rfl ?_ | refine g_ld 0 rfl rfl rfl rfl rfl rfl ?_ | refine g_ld 1 rfl rfl rfl rfl rfl rfl ?_ | refine gq_then ?_ | refine gc_seq ?_ | refine gc_region ?_ | refine gc_skip ?_ | refine gq_block ?_)
  refine g_call rfl (Cl.of Tryz.func98 rfl rfl) rfl rfl (fun w' hE => rarg_sp f x.a w' (hx.ok x.a (by simp)) hf.te) rfl ?_
  rintro q hq
  repeat' (first | refine g_pv rfl rfl ?_ | refine g_nil ?_ | refine gq_then ?_ | refine gc_ret ?_)
  refine gq_ret1 (.inr rfl) rfl rfl rfl (fun w' H => ⟨q, ?_, rfl, hp_nil H⟩)
  have hop : x.op = 12 ∨ x.op = 14 := by have := beq_eq_false_iff_ne.1 c1; have := beq_eq_false_iff_ne.1 c2; have := beq_eq_false_iff_ne.1 c3; have := beq_eq_false_iff_ne.1 c4; have := beq_eq_false_iff_ne.1 c5; have := beq_eq_false_iff_ne.1 c6; have := beq_eq_false_iff_ne.1 c7; have := beq_eq_false_iff_ne.1 c8; have := beq_eq_false_iff_ne.1 c9; have := beq_eq_false_iff_ne.1 c10; have := beq_eq_false_iff_ne.1 c11; have := beq_eq_false_iff_ne.1 c13; omega
  rcases hop with hop | hop
  · rw [hS, okI12 hop, hq]
  · rw [hS, okI14 hop, hq]
end Go.Proofs.YtpohhfggmaihpaaGreatDoor

/- The document's object. -/
namespace Go.Proofs.YtpohhfggmaihpaaGreatDoor
open Go.Wk
set_option linter.unusedVariables false
set_option linter.unusedSimpArgs false
attribute [local irreducible] G GC GQ GA GS Exit.then Exit.inBlock

theorem foldMax_zero : ∀ (l : List Int) (a : Int), 0 ≤ a → (∀ x ∈ l, 0 ≤ x) → (l.foldl (fun m x => if x > m then x else m) a == 0) = (a == 0 && l.all (· == 0))
  | [], a, _, _ => by simp
  | x :: r, a, ha, hl => by
    have hx := hl x List.mem_cons_self
    rw [List.foldl_cons, foldMax_zero r _ (by split <;> assumption) (fun y hy => hl y (List.mem_cons_of_mem _ hy)), List.all_cons, ← Bool.and_assoc]
    congr 1
    by_cases h : x > a
    · rw [if_pos h, beq_eq_false_iff_ne.2 (show x ≠ 0 by omega)]; simp
    · rw [if_neg h]
      by_cases h0 : a = 0
      · have : x = 0 := by omega
        subst h0; subst this; rfl
      · rw [beq_eq_false_iff_ne.2 h0]; rfl
theorem maxL_zero {l : List Int} (h : ∀ x ∈ l, 0 ≤ x) : (maxL l == 0) = l.all (· == 0) := by
  cases l with
  | nil => rfl
  | cons a r => exact foldMax_zero r a (h a List.mem_cons_self) (fun x hx => h x (List.mem_cons_of_mem _ hx))
set_option maxHeartbeats 16000000 in
theorem robject_sp (p : Pr) (fn : Fn) (o : Ob) (w : World) (hp : PrIn (hw w) p) (ho : ObIn (hw w) o) : Sp Tryz.prog 31 [p.val, o.val] w [] (fun b : Bool => .bool b) (fun _ => []) (fun b => b = objB ⟨p, fn⟩ o) := by
  have holen := hp.olen
  refine enter (s := Tryz.sx) [] Tryz.func31 rfl rfl rfl (Eff.refl w) ?_
  repeat' (first | refine g_pv rfl rfl ?_ | refine g_ld 0 rfl rfl rfl rfl rfl rfl ?_ | refine g_nil ?_ | refine gq_then ?_ | refine gc_seq ?_ | refine gc_region ?_ | refine g_box rfl rfl (fun _ => ?_))
  rename_i b2 b3
  refine g_call rfl (Cl.of Tryz.func52 rfl rfl) rfl rfl (fun w' hE => rtag_sp o.nm w') rfl ?_
  rintro t1 ht1
  repeat' (refine g_pv rfl rfl ?_)
  cases t1
  · repeat' (first | refine g_pv rfl rfl ?_ | refine g_nil ?_ | refine gq_then ?_ | refine gc_seq ?_ | refine gc_region ?_ | refine gc_cond_t rfl ?_ | refine gc_ret ?_ | refine gq_then_ret ?_ | refine g_no rfl rfl rfl rfl rfl ?_)
    refine gq_ret1 (.inr rfl) rfl rfl rfl (fun w' H => ⟨false, ?_, rfl, hp_nil H⟩)
    unfold objB; rw [← ht1]; rfl
  repeat' (first | refine g_pv rfl rfl ?_ | refine g_ld 0 rfl rfl rfl rfl rfl rfl ?_ | refine g_yes rfl rfl rfl ?_)
  refine g_case (t := 18) rfl (fun h1 => ?_) (fun h1 => ?_)
  · have h1 : decide (o.size < 1) = true := h1
    repeat' (first | refine g_pv rfl rfl ?_ | refine g_nil ?_ | refine gq_then ?_ | refine gc_seq ?_ | refine gc_region ?_ | refine gc_cond_t rfl ?_ | refine gc_ret ?_ | refine gq_then_ret ?_ | refine g_no rfl rfl rfl rfl rfl ?_)
    refine gq_ret1 (.inr rfl) rfl rfl rfl (fun w' H => ⟨false, ?_, rfl, hp_nil H⟩)
    unfold objB; rw [← ht1, h1]; rfl
  have h1 : decide (o.size < 1) = false := h1
  repeat' (first | refine g_pv rfl rfl ?_ | refine g_ld 0 rfl rfl rfl rfl rfl rfl ?_ | refine g_yes rfl rfl rfl ?_)
  refine g_case (t := 23) rfl (fun h2 => ?_) (fun h2 => ?_)
  · have h2 : decide (o.size > 16384) = true := h2
    repeat' (first | refine g_pv rfl rfl ?_ | refine g_nil ?_ | refine gq_then ?_ | refine gc_seq ?_ | refine gc_region ?_ | refine gc_cond_t rfl ?_ | refine gc_ret ?_ | refine gq_then_ret ?_ | refine g_no rfl rfl rfl rfl rfl ?_)
    refine gq_ret1 (.inr rfl) rfl rfl rfl (fun w' H => ⟨false, ?_, rfl, hp_nil H⟩)
    unfold objB; rw [← ht1, h1, h2]; rfl
  have h2 : decide (o.size > 16384) = false := h2
  repeat' (first | refine g_pv rfl rfl ?_ | refine g_ld 0 rfl rfl rfl rfl rfl rfl ?_ | refine g_yes rfl rfl rfl ?_)
  refine g_call rfl (Cl.of Tryz.func53 rfl rfl) rfl rfl (fun w' hE => rpower_sp o.align w') rfl ?_
  rintro t3 ht3
  have ht3 : t3 = powB o.align := ht3
  repeat' (first | refine g_pv rfl rfl ?_ | refine g_yes rfl rfl rfl ?_)
  cases t3
  · -- no
    repeat' (first | refine g_pv rfl rfl ?_ | refine g_nil ?_ | refine gq_then ?_ | refine gc_seq ?_ | refine gc_region ?_ | refine gc_cond_t rfl ?_ | refine gc_ret ?_ | refine gq_then_ret ?_ | refine g_no rfl rfl rfl rfl rfl ?_)
    refine gq_ret1 (.inr rfl) rfl rfl rfl (fun w' H => ⟨false, ?_, rfl, hp_nil H⟩)
    unfold objB; rw [← ht1, h1, h2, ← ht3]; rfl
  repeat' (first | refine g_pv rfl rfl ?_ | refine g_ld 0 rfl rfl rfl rfl rfl rfl ?_ | refine g_nil ?_ | refine gq_then ?_ | refine g_yes rfl rfl rfl ?_)
  refine gc_condC rfl (fun h4 => ?_) (fun h4 => ?_)
  · have h4' : ((o.bytes.length : Int) == o.size) = false := by simpa using h4
    repeat' (first | refine g_pv rfl rfl ?_ | refine g_nil ?_ | refine gq_then ?_ | refine gc_seq ?_ | refine gc_region ?_ | refine gc_ret ?_ | refine gq_then_ret ?_)
    refine gq_ret1 (.inr rfl) rfl rfl rfl (fun w' H => ⟨false, ?_, rfl, hp_nil H⟩)
    unfold objB; rw [← ht1, h1, h2, ← ht3, h4']; rfl
  have h4' : ((o.bytes.length : Int) == o.size) = true := by simpa using h4
  have hsz : (o.bytes.length : Int) = o.size := beq_iff_eq.1 h4'
  have hs1 := of_decide_eq_false h1
  have hs2 := of_decide_eq_false h2
  have hO : objB ⟨p, fn⟩ o = relsB ⟨p, fn⟩ o 0 o.rels := by unfold objB; rw [← ht1, h1, h2, ← ht3, h4']; rfl
  have hrlen := ho.rlen
  repeat' (first | refine g_pv rfl rfl ?_ | refine g_nil ?_ | refine gq_then ?_ | refine gc_seq ?_ | refine gc_region ?_ | refine gc_block ?_ | refine gc_skip ?_)
  refine gc_loop (Y := Nat × Int) (fun y => y.1 ≤ o.rels.length ∧ 0 ≤ y.2 ∧ y.2 ≤ 16384 ∧ relsB ⟨p, fn⟩ o 0 o.rels = relsB ⟨p, fn⟩ o y.2 (o.rels.drop y.1))
    (fun y => [(2, .pointer (some ⟨b2, 0, none⟩)), (3, .pointer (some ⟨b3, 0, none⟩)), (5, .int .i64 (y.2 - 4)), (6, .int .i64 y.1)])
    (fun y => [[(b3, .cells ⟨o.cells⟩ 66 (0, 0))], [(b2, .cells ⟨p.cells⟩ 25 (0, 0))]])
    (fun y => o.rels.length - y.1) (0, 0) ⟨Nat.zero_le _, Int.le_refl _, by decide, rfl⟩ ⟨rfl, rfl, rfl, rfl, trivial⟩ (fun w' H => H) ?_
  rintro ⟨k, fr⟩ ⟨hk, hf0, hf1, hR⟩
  dsimp only at hk hf0 hf1 hR ⊢
  repeat' (first | refine g_pv rfl rfl ?_ | refine g_ld 0 rfl rfl rfl rfl rfl rfl ?_ | refine g_nil ?_ | refine gq_then ?_ | refine gc_seq ?_ | refine gc_region ?_)
  refine gc_condC rfl (fun hc => ?_) (fun hc => ?_)
  rotate_left
  · have hge : k = o.rels.length := by have := of_decide_eq_false hc; omega
    repeat' (first | refine g_pv rfl rfl ?_ | refine g_nil ?_ | refine gq_then ?_ | refine gc_seq ?_ | refine gc_region ?_ | refine gc_exit ?_ | refine gc_ret ?_ | refine gq_then_exit ?_ | refine gq_block_exit ?_)
    refine gq_ret1 (.inr rfl) rfl rfl rfl (fun w' H => ⟨true, ?_, rfl, hp_nil H⟩)
    rw [hO, hR, hge, List.drop_length]; rfl
  have hlt : k < o.rels.length := by have := of_decide_eq_true hc; omega
  have hx : o.rels[k]? = some (o.rels[k]) := List.getElem?_eq_getElem hlt
  have hd : o.rels.drop k = o.rels[k] :: o.rels.drop (k + 1) := List.drop_eq_getElem_cons hlt
  have hr := ho.rs _ (List.getElem_mem hlt)
  generalize o.rels[k] = r at hx hd hr
  rw [hd] at hR
  repeat' (first | refine g_pv rfl rfl ?_ | refine g_ld 0 rfl rfl rfl rfl rfl rfl ?_ | refine gq_then ?_ | refine gc_seq ?_ | refine gc_region ?_ | refine gc_block ?_ | refine gc_skip ?_)
  refine g_at (l := o.rels) (f := Rel.cells) (u := r) rfl rfl rfl rfl rfl (Int.natCast_nonneg k) (by omega) (ho.rels.le (old_le0 _ w)) hx rfl rfl rfl rfl (fun a => ?_)
  repeat' (first | refine g_nil ?_ | refine gq_then ?_ | refine g_alloc rfl rfl (fun _ => ?_) | refine g_st 0 rfl rfl rfl rfl rfl rfl rfl ?_)
  rename_i b7
  refine gc_heap (R' := [[(b7, .cells ⟨r.cells⟩ 78 (0, 0))], [(b3, .cells ⟨o.cells⟩ 66 (0, 0))], [(b2, .cells ⟨p.cells⟩ 25 (0, 0))]]) (fun w H => H) ?_
  repeat' (first | refine g_pv rfl rfl ?_ | refine g_ld 0 rfl rfl rfl rfl rfl rfl ?_ | refine gc_seq ?_ | refine gc_region ?_)
  refine g_case (t := 55) rfl (fun g0 => ?_) (fun g0 => ?_)
  · have g0 : decide (r.off < 0) = true := g0
    repeat' (first | refine g_pv rfl rfl ?_ | refine g_nil ?_ | refine gq_then ?_ | refine gc_seq ?_ | refine gc_region ?_ | refine gc_cond_t rfl ?_ | refine gc_ret ?_ | refine gq_then_ret ?_ | refine gq_block_ret ?_ | refine g_no rfl rfl rfl rfl rfl ?_)
    refine gq_ret1 (.inr rfl) rfl rfl rfl (fun w' H => ⟨false, ?_, rfl, hp_nil H⟩)
    rw [hO, hR, relsB_no (by unfold relB; rw [show decide (r.off < fr) = true from decide_eq_true (by have := of_decide_eq_true g0; omega)]; simp)]
  have g0 : decide (r.off < 0) = false := g0
  repeat' (first | refine g_pv rfl rfl ?_ | refine g_ld 0 rfl rfl rfl rfl rfl rfl ?_ | refine g_ld 1 rfl rfl rfl rfl rfl rfl ?_ | refine g_yes rfl rfl rfl ?_)
  refine g_case (t := 63) rfl (fun g1 => ?_) (fun g1 => ?_)
  · have g1 : decide (r.off > IntKind.i64.wrap (o.size - 4)) = true := g1
    repeat' (first | refine g_pv rfl rfl ?_ | refine g_nil ?_ | refine gq_then ?_ | refine gc_seq ?_ | refine gc_region ?_ | refine gc_cond_t rfl ?_ | refine gc_ret ?_ | refine gq_then_ret ?_ | refine gq_block_ret ?_ | refine g_no rfl rfl rfl rfl rfl ?_)
    refine gq_ret1 (.inr rfl) rfl rfl rfl (fun w' H => ⟨false, ?_, rfl, hp_nil H⟩)
    rw [hO, hR, relsB_no (by unfold relB; rw [g1]; simp)]
  have g1 : decide (r.off > IntKind.i64.wrap (o.size - 4)) = false := g1
  repeat' (first | refine g_pv rfl rfl ?_ | refine g_ld 0 rfl rfl rfl rfl rfl rfl ?_ | refine g_yes rfl rfl rfl ?_)
  refine g_p (p_rem rfl rfl (by decide)) rfl ?_
  repeat' (first | refine g_pv rfl rfl ?_ | refine g_yes rfl rfl rfl ?_)
  refine g_case (t := 69) rfl (fun g2 => ?_) (fun g2 => ?_)
  · have g2' : (r.off.tmod 4 == 0) = false := by simpa using g2
    repeat' (first | refine g_pv rfl rfl ?_ | refine g_nil ?_ | refine gq_then ?_ | refine gc_seq ?_ | refine gc_region ?_ | refine gc_cond_t rfl ?_ | refine gc_ret ?_ | refine gq_then_ret ?_ | refine gq_block_ret ?_ | refine g_no rfl rfl rfl rfl rfl ?_)
    refine gq_ret1 (.inr rfl) rfl rfl rfl (fun w' H => ⟨false, ?_, rfl, hp_nil H⟩)
    rw [hO, hR, relsB_no (by unfold relB; rw [g2']; simp)]
  have g2' : (r.off.tmod 4 == 0) = true := by simpa using g2
  repeat' (first | refine g_pv rfl rfl ?_ | refine g_ld 1 rfl rfl rfl rfl rfl rfl ?_ | refine g_yes rfl rfl rfl ?_)
  refine g_case (t := 74) rfl (fun g3 => ?_) (fun g3 => ?_)
  · have g3' : (o.align == 4) = false := by simpa using g3
    repeat' (first | refine g_pv rfl rfl ?_ | refine g_nil ?_ | refine gq_then ?_ | refine gc_seq ?_ | refine gc_region ?_ | refine gc_cond_t rfl ?_ | refine gc_ret ?_ | refine gq_then_ret ?_ | refine gq_block_ret ?_ | refine g_no rfl rfl rfl rfl rfl ?_)
    refine gq_ret1 (.inr rfl) rfl rfl rfl (fun w' H => ⟨false, ?_, rfl, hp_nil H⟩)
    rw [hO, hR, relsB_no (by unfold relB; rw [g3']; simp)]
  have g3' : (o.align == 4) = true := by simpa using g3
  repeat' (first | refine g_pv rfl rfl ?_ | refine g_ld 0 rfl rfl rfl rfl rfl rfl ?_ | refine g_nil ?_ | refine gq_then ?_ | refine g_yes rfl rfl rfl ?_)
  have hfr : IntKind.i64.wrap (fr - 4 + 4) = fr := by rw [IntKind.wrap_i64] <;> omega
  refine gc_condC rfl (fun g4 => ?_) (fun g4 => ?_)
  · have g4 : decide (r.off < IntKind.i64.wrap (fr - 4 + 4)) = true := g4
    rw [hfr] at g4
    repeat' (first | refine g_pv rfl rfl ?_ | refine g_nil ?_ | refine gq_then ?_ | refine gc_seq ?_ | refine gc_region ?_ | refine gc_ret ?_ | refine gq_then_ret ?_ | refine gq_block_ret ?_)
    refine gq_ret1 (.inr rfl) rfl rfl rfl (fun w' H => ⟨false, ?_, rfl, hp_nil H⟩)
    rw [hO, hR, relsB_no (by unfold relB; rw [g4]; simp)]
  have g4 : decide (r.off < IntKind.i64.wrap (fr - 4 + 4)) = false := g4
  rw [hfr] at g4
  repeat' (first | refine gq_then ?_ | refine gc_seq ?_ | refine gc_skip ?_)
  refine gc_draw [[(b7, .cells ⟨r.cells⟩ 78 (0, 0))], [(b3, .cells ⟨o.cells⟩ 66 (0, 0))], [(b2, .cells ⟨p.cells⟩ 25 (0, 0))]] [] rfl (List.Perm.of_eq rfl) ?_
  (refine ga_p 0 (by repeat first | exact NoP.sp | apply NoP.then | apply NoP.block) rfl (pv_spec rfl) rfl (by kernel_rfl) (by kernel_rfl) (by kernel_rfl) ?_); (refine ga_ld 1 0 (by repeat first | exact NoP.sp | apply NoP.then | apply NoP.block) rfl wanted_none rfl rfl rfl rfl rfl rfl (by kernel_rfl) (by kernel_rfl) (by kernel_rfl) ?_); (refine ga_p 2 (by repeat first | exact NoP.sp | apply NoP.then | apply NoP.block) rfl (pv_spec rfl) rfl (by kernel_rfl) (by kernel_rfl) (by kernel_rfl) ?_); (refine ga_p 3 (by repeat first | exact NoP.sp | apply NoP.then | apply NoP.block) rfl (pv_spec rfl) rfl (by kernel_rfl) (by kernel_rfl) (by kernel_rfl) ?_)
  refine ga_case (t := 84) rfl (fun g5 => ?_) (fun g5 => ?_)
  · have g5 : decide (r.gl < 0) = true := g5
    (refine ga_n 4 (by repeat first | exact NoP.sp | apply NoP.then | apply NoP.block) rfl rfl rfl rfl rfl rfl (by kernel_rfl) (by kernel_rfl) (by kernel_rfl) ?_); (refine ga_n 5 (by repeat first | exact NoP.sp | apply NoP.then | apply NoP.block) rfl rfl rfl rfl rfl rfl (by kernel_rfl) (by kernel_rfl) (by kernel_rfl) ?_); (refine ga_n 6 (by repeat first | exact NoP.sp | apply NoP.then | apply NoP.block) rfl rfl rfl rfl rfl rfl (by kernel_rfl) (by kernel_rfl) (by kernel_rfl) ?_); (refine ga_n 7 (by repeat first | exact NoP.sp | apply NoP.then | apply NoP.block) rfl rfl rfl rfl rfl rfl (by kernel_rfl) (by kernel_rfl) (by kernel_rfl) ?_); (refine ga_n 8 (by repeat first | exact NoP.sp | apply NoP.then | apply NoP.block) rfl rfl rfl rfl rfl rfl (by kernel_rfl) (by kernel_rfl) (by kernel_rfl) ?_); (refine ga_n 9 (by repeat first | exact NoP.sp | apply NoP.then | apply NoP.block) rfl rfl rfl rfl rfl rfl (by kernel_rfl) (by kernel_rfl) (by kernel_rfl) ?_); (refine ga_p 10 (by repeat first | exact NoP.sp | apply NoP.then | apply NoP.block) rfl (pv_spec rfl) rfl (by kernel_rfl) (by kernel_rfl) (by kernel_rfl) ?_); (refine ga_p 11 (by repeat first | exact NoP.sp | apply NoP.then | apply NoP.block) rfl (pv_spec rfl) rfl (by kernel_rfl) (by kernel_rfl) (by kernel_rfl) ?_); (refine ga_n 12 (by repeat first | exact NoP.sp | apply NoP.then | apply NoP.block) rfl rfl rfl rfl rfl rfl (by kernel_rfl) (by kernel_rfl) (by kernel_rfl) ?_); (refine ga_n 13 (by repeat first | exact NoP.sp | apply NoP.then | apply NoP.block) rfl rfl rfl rfl rfl rfl (by kernel_rfl) (by kernel_rfl) (by kernel_rfl) ?_); (refine ga_n 14 (by repeat first | exact NoP.sp | apply NoP.then | apply NoP.block) rfl rfl rfl rfl rfl rfl (by kernel_rfl) (by kernel_rfl) (by kernel_rfl) ?_); (refine ga_p 15 (by repeat first | exact NoP.sp | apply NoP.then | apply NoP.block) rfl (pv_spec rfl) rfl (by kernel_rfl) (by kernel_rfl) (by kernel_rfl) ?_); (refine ga_p 16 (by repeat first | exact NoP.sp | apply NoP.then | apply NoP.block) rfl (pv_spec rfl) rfl (by kernel_rfl) (by kernel_rfl) (by kernel_rfl) ?_); (refine ga_n 17 (by repeat first | exact NoP.sp | apply NoP.then | apply NoP.block) rfl rfl rfl rfl rfl rfl (by kernel_rfl) (by kernel_rfl) (by kernel_rfl) ?_); (refine ga_n 18 (by repeat first | exact NoP.sp | apply NoP.then | apply NoP.block) rfl rfl rfl rfl rfl rfl (by kernel_rfl) (by kernel_rfl) (by kernel_rfl) ?_); (refine ga_n 19 (by repeat first | exact NoP.sp | apply NoP.then | apply NoP.block) rfl rfl rfl rfl rfl rfl (by kernel_rfl) (by kernel_rfl) (by kernel_rfl) ?_); (refine ga_n 20 (by repeat first | exact NoP.sp | apply NoP.then | apply NoP.block) rfl rfl rfl rfl rfl rfl (by kernel_rfl) (by kernel_rfl) (by kernel_rfl) ?_); (refine ga_n 21 (by repeat first | exact NoP.sp | apply NoP.then | apply NoP.block) rfl rfl rfl rfl rfl rfl (by kernel_rfl) (by kernel_rfl) (by kernel_rfl) ?_); (refine ga_n 22 (by repeat first | exact NoP.sp | apply NoP.then | apply NoP.block) rfl rfl rfl rfl rfl rfl (by kernel_rfl) (by kernel_rfl) (by kernel_rfl) ?_); (refine ga_n 23 (by repeat first | exact NoP.sp | apply NoP.then | apply NoP.block) rfl rfl rfl rfl rfl rfl (by kernel_rfl) (by kernel_rfl) (by kernel_rfl) ?_); (refine ga_n 24 (by repeat first | exact NoP.sp | apply NoP.then | apply NoP.block) rfl rfl rfl rfl rfl rfl (by kernel_rfl) (by kernel_rfl) (by kernel_rfl) ?_); (refine ga_n 25 (by repeat first | exact NoP.sp | apply NoP.then | apply NoP.block) rfl rfl rfl rfl rfl rfl (by kernel_rfl) (by kernel_rfl) (by kernel_rfl) ?_); (refine ga_n 26 (by repeat first | exact NoP.sp | apply NoP.then | apply NoP.block) rfl rfl rfl rfl rfl rfl (by kernel_rfl) (by kernel_rfl) (by kernel_rfl) ?_); (refine ga_p 27 (by repeat first | exact NoP.sp | apply NoP.then | apply NoP.block) rfl (pv_spec rfl) rfl (by kernel_rfl) (by kernel_rfl) (by kernel_rfl) ?_)
    refine ga_nil (by kernel_rfl) ?_
    repeat' (first | refine g_pv rfl rfl ?_ | refine g_nil ?_ | refine gq_then ?_ | refine gc_seq ?_ | refine gc_region ?_ | refine gc_cond_t rfl ?_ | refine gc_ret ?_ | refine gq_then_ret ?_ | refine gq_block_ret ?_)
    refine gq_ret1 (.inr rfl) rfl rfl rfl (fun w' H => ⟨false, ?_, rfl, hp_nil H⟩)
    rw [hO, hR, relsB_no (by unfold relB; rw [show inB r.gl p.obs.length = false from by unfold inB; rw [decide_eq_false (show ¬ 0 ≤ r.gl by have := of_decide_eq_true g5; omega)]; rfl]; simp)]
  have g5 : decide (r.gl < 0) = false := g5
  (refine ga_py 4 (by repeat first | exact NoP.sp | apply NoP.then | apply NoP.block) rfl rfl rfl rfl (pv_spec rfl) rfl (by kernel_rfl) (by kernel_rfl) (by kernel_rfl) ?_); (refine ga_ld 5 0 (by repeat first | exact NoP.sp | apply NoP.then | apply NoP.block) rfl (wanted_yes rfl rfl rfl) rfl rfl rfl rfl rfl rfl (by kernel_rfl) (by kernel_rfl) (by kernel_rfl) ?_); (refine ga_py 6 (by repeat first | exact NoP.sp | apply NoP.then | apply NoP.block) rfl rfl rfl rfl (pv_spec rfl) rfl (by kernel_rfl) (by kernel_rfl) (by kernel_rfl) ?_); (refine ga_ld 7 2 (by repeat first | exact NoP.sp | apply NoP.then | apply NoP.block) rfl (wanted_yes rfl rfl rfl) rfl rfl rfl rfl rfl rfl (by kernel_rfl) (by kernel_rfl) (by kernel_rfl) ?_); (refine ga_py 8 (by repeat first | exact NoP.sp | apply NoP.then | apply NoP.block) rfl rfl rfl rfl (pv_spec rfl) rfl (by kernel_rfl) (by kernel_rfl) (by kernel_rfl) ?_); (refine ga_py 9 (by repeat first | exact NoP.sp | apply NoP.then | apply NoP.block) rfl rfl rfl rfl (pv_spec rfl) rfl (by kernel_rfl) (by kernel_rfl) (by kernel_rfl) ?_); (refine ga_p 10 (by repeat first | exact NoP.sp | apply NoP.then | apply NoP.block) rfl (pv_spec rfl) rfl (by kernel_rfl) (by kernel_rfl) (by kernel_rfl) ?_); (refine ga_p 11 (by repeat first | exact NoP.sp | apply NoP.then | apply NoP.block) rfl (pv_spec rfl) rfl (by kernel_rfl) (by kernel_rfl) (by kernel_rfl) ?_)
  refine ga_case (t := 92) rfl (fun g6 => ?_) (fun g6 => ?_)
  · have g6 : decide (r.gl ≥ p.obs.length) = true := g6
    (refine ga_n 12 (by repeat first | exact NoP.sp | apply NoP.then | apply NoP.block) rfl rfl rfl rfl rfl rfl (by kernel_rfl) (by kernel_rfl) (by kernel_rfl) ?_); (refine ga_n 13 (by repeat first | exact NoP.sp | apply NoP.then | apply NoP.block) rfl rfl rfl rfl rfl rfl (by kernel_rfl) (by kernel_rfl) (by kernel_rfl) ?_); (refine ga_n 14 (by repeat first | exact NoP.sp | apply NoP.then | apply NoP.block) rfl rfl rfl rfl rfl rfl (by kernel_rfl) (by kernel_rfl) (by kernel_rfl) ?_); (refine ga_p 15 (by repeat first | exact NoP.sp | apply NoP.then | apply NoP.block) rfl (pv_spec rfl) rfl (by kernel_rfl) (by kernel_rfl) (by kernel_rfl) ?_); (refine ga_p 16 (by repeat first | exact NoP.sp | apply NoP.then | apply NoP.block) rfl (pv_spec rfl) rfl (by kernel_rfl) (by kernel_rfl) (by kernel_rfl) ?_); (refine ga_n 17 (by repeat first | exact NoP.sp | apply NoP.then | apply NoP.block) rfl rfl rfl rfl rfl rfl (by kernel_rfl) (by kernel_rfl) (by kernel_rfl) ?_); (refine ga_n 18 (by repeat first | exact NoP.sp | apply NoP.then | apply NoP.block) rfl rfl rfl rfl rfl rfl (by kernel_rfl) (by kernel_rfl) (by kernel_rfl) ?_); (refine ga_n 19 (by repeat first | exact NoP.sp | apply NoP.then | apply NoP.block) rfl rfl rfl rfl rfl rfl (by kernel_rfl) (by kernel_rfl) (by kernel_rfl) ?_); (refine ga_n 20 (by repeat first | exact NoP.sp | apply NoP.then | apply NoP.block) rfl rfl rfl rfl rfl rfl (by kernel_rfl) (by kernel_rfl) (by kernel_rfl) ?_); (refine ga_n 21 (by repeat first | exact NoP.sp | apply NoP.then | apply NoP.block) rfl rfl rfl rfl rfl rfl (by kernel_rfl) (by kernel_rfl) (by kernel_rfl) ?_); (refine ga_n 22 (by repeat first | exact NoP.sp | apply NoP.then | apply NoP.block) rfl rfl rfl rfl rfl rfl (by kernel_rfl) (by kernel_rfl) (by kernel_rfl) ?_); (refine ga_n 23 (by repeat first | exact NoP.sp | apply NoP.then | apply NoP.block) rfl rfl rfl rfl rfl rfl (by kernel_rfl) (by kernel_rfl) (by kernel_rfl) ?_); (refine ga_n 24 (by repeat first | exact NoP.sp | apply NoP.then | apply NoP.block) rfl rfl rfl rfl rfl rfl (by kernel_rfl) (by kernel_rfl) (by kernel_rfl) ?_); (refine ga_n 25 (by repeat first | exact NoP.sp | apply NoP.then | apply NoP.block) rfl rfl rfl rfl rfl rfl (by kernel_rfl) (by kernel_rfl) (by kernel_rfl) ?_); (refine ga_n 26 (by repeat first | exact NoP.sp | apply NoP.then | apply NoP.block) rfl rfl rfl rfl rfl rfl (by kernel_rfl) (by kernel_rfl) (by kernel_rfl) ?_); (refine ga_p 27 (by repeat first | exact NoP.sp | apply NoP.then | apply NoP.block) rfl (pv_spec rfl) rfl (by kernel_rfl) (by kernel_rfl) (by kernel_rfl) ?_)
    refine ga_nil (by kernel_rfl) ?_
    repeat' (first | refine g_pv rfl rfl ?_ | refine g_nil ?_ | refine gq_then ?_ | refine gc_seq ?_ | refine gc_region ?_ | refine gc_cond_t rfl ?_ | refine gc_ret ?_ | refine gq_then_ret ?_ | refine gq_block_ret ?_)
    refine gq_ret1 (.inr rfl) rfl rfl rfl (fun w' H => ⟨false, ?_, rfl, hp_nil H⟩)
    rw [hO, hR, relsB_no (by unfold relB; rw [show inB r.gl p.obs.length = false from by unfold inB; rw [decide_eq_false (show ¬ r.gl < p.obs.length by have := of_decide_eq_true g6; omega)]; simp]; simp)]
  have g6 : decide (r.gl ≥ p.obs.length) = false := g6
  (refine ga_py 12 (by repeat first | exact NoP.sp | apply NoP.then | apply NoP.block) rfl rfl rfl rfl (pv_spec rfl) rfl (by kernel_rfl) (by kernel_rfl) (by kernel_rfl) ?_); (refine ga_ld 13 0 (by repeat first | exact NoP.sp | apply NoP.then | apply NoP.block) rfl (wanted_yes rfl rfl rfl) rfl rfl rfl rfl rfl rfl (by kernel_rfl) (by kernel_rfl) (by kernel_rfl) ?_); (refine ga_py 14 (by repeat first | exact NoP.sp | apply NoP.then | apply NoP.block) rfl rfl rfl rfl (pv_spec rfl) rfl (by kernel_rfl) (by kernel_rfl) (by kernel_rfl) ?_); (refine ga_p 15 (by repeat first | exact NoP.sp | apply NoP.then | apply NoP.block) rfl (pv_spec rfl) rfl (by kernel_rfl) (by kernel_rfl) (by kernel_rfl) ?_); (refine ga_p 16 (by repeat first | exact NoP.sp | apply NoP.then | apply NoP.block) rfl (pv_spec rfl) rfl (by kernel_rfl) (by kernel_rfl) (by kernel_rfl) ?_)
  refine ga_case (t := 97) rfl (fun g7 => ?_) (fun g7 => ?_)
  · have g7 : decide (r.add < 0) = true := g7
    (refine ga_n 17 (by repeat first | exact NoP.sp | apply NoP.then | apply NoP.block) rfl rfl rfl rfl rfl rfl (by kernel_rfl) (by kernel_rfl) (by kernel_rfl) ?_); (refine ga_n 18 (by repeat first | exact NoP.sp | apply NoP.then | apply NoP.block) rfl rfl rfl rfl rfl rfl (by kernel_rfl) (by kernel_rfl) (by kernel_rfl) ?_); (refine ga_n 19 (by repeat first | exact NoP.sp | apply NoP.then | apply NoP.block) rfl rfl rfl rfl rfl rfl (by kernel_rfl) (by kernel_rfl) (by kernel_rfl) ?_); (refine ga_n 20 (by repeat first | exact NoP.sp | apply NoP.then | apply NoP.block) rfl rfl rfl rfl rfl rfl (by kernel_rfl) (by kernel_rfl) (by kernel_rfl) ?_); (refine ga_n 21 (by repeat first | exact NoP.sp | apply NoP.then | apply NoP.block) rfl rfl rfl rfl rfl rfl (by kernel_rfl) (by kernel_rfl) (by kernel_rfl) ?_); (refine ga_n 22 (by repeat first | exact NoP.sp | apply NoP.then | apply NoP.block) rfl rfl rfl rfl rfl rfl (by kernel_rfl) (by kernel_rfl) (by kernel_rfl) ?_); (refine ga_n 23 (by repeat first | exact NoP.sp | apply NoP.then | apply NoP.block) rfl rfl rfl rfl rfl rfl (by kernel_rfl) (by kernel_rfl) (by kernel_rfl) ?_); (refine ga_n 24 (by repeat first | exact NoP.sp | apply NoP.then | apply NoP.block) rfl rfl rfl rfl rfl rfl (by kernel_rfl) (by kernel_rfl) (by kernel_rfl) ?_); (refine ga_n 25 (by repeat first | exact NoP.sp | apply NoP.then | apply NoP.block) rfl rfl rfl rfl rfl rfl (by kernel_rfl) (by kernel_rfl) (by kernel_rfl) ?_); (refine ga_n 26 (by repeat first | exact NoP.sp | apply NoP.then | apply NoP.block) rfl rfl rfl rfl rfl rfl (by kernel_rfl) (by kernel_rfl) (by kernel_rfl) ?_); (refine ga_p 27 (by repeat first | exact NoP.sp | apply NoP.then | apply NoP.block) rfl (pv_spec rfl) rfl (by kernel_rfl) (by kernel_rfl) (by kernel_rfl) ?_)
    refine ga_nil (by kernel_rfl) ?_
    repeat' (first | refine g_pv rfl rfl ?_ | refine g_nil ?_ | refine gq_then ?_ | refine gc_seq ?_ | refine gc_region ?_ | refine gc_cond_t rfl ?_ | refine gc_ret ?_ | refine gq_then_ret ?_ | refine gq_block_ret ?_)
    refine gq_ret1 (.inr rfl) rfl rfl rfl (fun w' H => ⟨false, ?_, rfl, hp_nil H⟩)
    rw [hO, hR, relsB_no (by unfold relB; rw [g7]; simp)]
  have g7 : decide (r.add < 0) = false := g7
  have hb5 : 0 ≤ r.gl ∧ r.gl < p.obs.length := ⟨by have := of_decide_eq_false g5; omega, by have := of_decide_eq_false g6; omega⟩
  have g56 : inB r.gl p.obs.length = true := inB_iff.2 hb5
  have hlx : p.obs[r.gl.toNat]? = some (p.obs[r.gl.toNat]'(by omega)) := List.getElem?_eq_getElem (by omega)
  generalize p.obs[r.gl.toNat]'(by omega) = q at hlx
  obtain ⟨bb, oo, hA, hcq⟩ := hp.obs r.gl.toNat _ hlx
  have hoff0 : 0 ≤ r.off := by have := of_decide_eq_false g0; omega
  have hoff1 : r.off + 4 ≤ o.bytes.length := by
    have h8 := of_decide_eq_false g1
    rw [show IntKind.i64.wrap (o.size - 4) = o.size - 4 from by rw [IntKind.wrap_i64]; omega] at h8
    omega
  (refine ga_py 17 (by repeat first | exact NoP.sp | apply NoP.then | apply NoP.block) rfl rfl rfl rfl (pv_spec rfl) rfl (by kernel_rfl) (by kernel_rfl) (by kernel_rfl) ?_); (refine ga_ld 18 0 (by repeat first | exact NoP.sp | apply NoP.then | apply NoP.block) rfl (wanted_yes rfl rfl rfl) rfl rfl rfl rfl rfl rfl (by kernel_rfl) (by kernel_rfl) (by kernel_rfl) ?_); (refine ga_py 19 (by repeat first | exact NoP.sp | apply NoP.then | apply NoP.block) rfl rfl rfl rfl (pv_spec rfl) rfl (by kernel_rfl) (by kernel_rfl) (by kernel_rfl) ?_); (refine ga_ld 20 2 (by repeat first | exact NoP.sp | apply NoP.then | apply NoP.block) rfl (wanted_yes rfl rfl rfl) rfl rfl rfl rfl rfl rfl (by kernel_rfl) (by kernel_rfl) (by kernel_rfl) ?_); (refine ga_py 21 (by repeat first | exact NoP.sp | apply NoP.then | apply NoP.block) rfl rfl rfl rfl (pv_spec rfl) rfl (by kernel_rfl) (by kernel_rfl) (by kernel_rfl) ?_); (refine ga_ld 22 0 (by repeat first | exact NoP.sp | apply NoP.then | apply NoP.block) rfl (wanted_yes rfl rfl rfl) rfl rfl rfl rfl rfl rfl (by kernel_rfl) (by kernel_rfl) (by kernel_rfl) ?_)
  refine ga_py 23 (by repeat first | exact NoP.sp | apply NoP.then | apply NoP.block) rfl rfl rfl rfl (p_ix (bx := bb) (o := oo) (by show some (Value.slice p.oA _ _) = _; rw [hA]) rfl rfl rfl hb5.1 hb5.2) rfl (by kernel_rfl) (by kernel_rfl) (by kernel_rfl) ?_
  (refine ga_py 24 (by repeat first | exact NoP.sp | apply NoP.then | apply NoP.block) rfl rfl rfl rfl (pv_spec rfl) rfl (by kernel_rfl) (by kernel_rfl) (by kernel_rfl) ?_)
  refine ga_ldO 25 (cs := [.int .i64 q.size]) (by repeat first | exact NoP.sp | apply NoP.then | apply NoP.block) rfl (wanted_yes rfl rfl rfl) rfl rfl rfl rfl (fun k u hk => ?_) rfl (by kernel_rfl) (by kernel_rfl) (by kernel_rfl) ?_
  · have hk0 : k = 0 := by have := (List.getElem?_eq_some_iff.1 hk).1; simp at this; omega
    subst hk0
    simp only [List.getElem?_cons_zero, Option.some.injEq] at hk; subst hk
    exact (old_le0 _ w).cell (hcq 1 _ rfl)
  (refine ga_py 26 (by repeat first | exact NoP.sp | apply NoP.then | apply NoP.block) rfl rfl rfl rfl (pv_spec rfl) rfl (by kernel_rfl) (by kernel_rfl) (by kernel_rfl) ?_); (refine ga_p 27 (by repeat first | exact NoP.sp | apply NoP.then | apply NoP.block) rfl (pv_spec rfl) rfl (by kernel_rfl) (by kernel_rfl) (by kernel_rfl) ?_)
  refine ga_nil (by kernel_rfl) ?_
  repeat' (refine gq_then ?_)
  refine gc_condC rfl (fun g8 => ?_) (fun g8 => ?_)
  · have g8 : decide (r.add > q.size) = true := g8
    repeat' (first | refine g_pv rfl rfl ?_ | refine g_nil ?_ | refine gq_then ?_ | refine gc_seq ?_ | refine gc_region ?_ | refine gc_ret ?_ | refine gq_then_ret ?_ | refine gq_block_ret ?_)
    refine gq_ret1 (.inr rfl) rfl rfl rfl (fun w' H => ⟨false, ?_, rfl, hp_nil H⟩)
    rw [hO, hR, relsB_no (by unfold relB; rw [hlx]; dsimp only; rw [g8]; simp)]
  have g8 : decide (r.add > q.size) = false := g8
  have hB : relB ⟨p, fn⟩ o fr r = ((o.bytes.drop r.off.toNat).take 4).all (· == 0) := by
    unfold relB; rw [g1, g2', g3', g4, hlx]; dsimp only; rw [g56, g7, g8, maxL_zero (fun x hx => (ho.bs x (List.mem_of_mem_drop (List.mem_of_mem_take hx))).1)]; rfl
  repeat' (first | refine g_pv rfl rfl ?_ | refine g_nil ?_ | refine gq_then ?_ | refine gc_seq ?_ | refine gc_region ?_ | refine gc_block ?_ | refine gc_skip ?_)
  refine gc_loop (Y := Nat) (fun y => y ≤ 4 ∧ ((o.bytes.drop r.off.toNat).take y).all (· == 0) = true)
    (fun y => [(2, .pointer (some ⟨b2, 0, none⟩)), (3, .pointer (some ⟨b3, 0, none⟩)), (5, .int .i64 (fr - 4)), (6, .int .i64 k), (7, .pointer (some ⟨b7, 0, none⟩)), (8, .int .i64 y)])
    (fun y => [[(b7, .cells ⟨r.cells⟩ 78 (0, 0))], [(b3, .cells ⟨o.cells⟩ 66 (0, 0))], [(b2, .cells ⟨p.cells⟩ 25 (0, 0))]])
    (fun y => 4 - y) 0 ⟨Nat.zero_le _, rfl⟩ ⟨rfl, rfl, rfl, rfl, rfl, rfl, trivial⟩ (fun w' H => H) ?_
  rintro m ⟨hm, hall⟩
  dsimp only at hm hall ⊢
  repeat' (first | refine g_pv rfl rfl ?_ | refine g_nil ?_ | refine gq_then ?_ | refine gc_seq ?_ | refine gc_region ?_)
  refine gc_condC rfl (fun hc2 => ?_) (fun hc2 => ?_)
  rotate_left
  · have hge : m = 4 := by have := of_decide_eq_false hc2; omega
    rw [hge] at hall
    repeat' (first | refine g_pv rfl rfl ?_ | refine g_ld 0 rfl rfl rfl rfl rfl rfl ?_ | refine g_nil ?_ | refine gq_then ?_ | refine gc_region ?_ | refine gc_exit ?_ | refine gq_then_exit ?_ | refine gq_block ?_ | refine gq_block_exit ?_)
    refine gq_again (k + 1, r.off + 4) ⟨hlt, by dsimp only; omega, by dsimp only; omega, ?_⟩ (by dsimp only; omega) ⟨rfl, rfl, ?_, inc_eq (by omega), trivial⟩ (fun w' H => hp_drop 0 H)
    · dsimp only
      rw [hR, relsB_yes (by rw [hB, hall])]
    · show some (Value.int .i64 r.off) = some (Value.int .i64 (r.off + 4 - 4))
      congr 2; omega
  have hmlt : m < 4 := by have := of_decide_eq_true hc2; omega
  have hbl : r.off.toNat + m < o.bytes.length := by omega
  have hxb : o.bytes[r.off.toNat + m]? = some (o.bytes[r.off.toNat + m]) := List.getElem?_eq_getElem hbl
  have htk : (o.bytes.drop r.off.toNat).take (m + 1) = (o.bytes.drop r.off.toNat).take m ++ [o.bytes[r.off.toNat + m]] := by
    rw [List.take_succ_eq_append_getElem (by rw [List.length_drop]; omega), List.getElem_drop]
  generalize o.bytes[r.off.toNat + m] = c at hxb htk
  repeat' (first | refine g_pv rfl rfl ?_ | refine g_ld 0 rfl rfl rfl rfl rfl rfl ?_ | refine g_ld 1 rfl rfl rfl rfl rfl rfl ?_ | refine gq_then ?_ | refine gc_seq ?_ | refine gc_region ?_ | refine gc_block ?_ | refine gc_skip ?_)
  refine g_eq 119 (u' := .int .i64 ((r.off.toNat + m : Nat) : Int)) rfl (by congr 1; rw [IntKind.wrap_i64]; omega) ?_
  refine g_at (l := o.bytes) (f := fB) (u := c) rfl rfl rfl rfl rfl (Int.natCast_nonneg _) (by omega) (ho.bytes.le (old_le0 _ w)) hxb rfl rfl rfl rfl (fun a => ?_)
  repeat' (first | refine g_pv rfl rfl ?_ | refine g_nil ?_ | refine gq_then ?_)
  refine gc_condC rfl (fun g9 => ?_) (fun g9 => ?_)
  · have g9' : (c == 0) = false := by simpa using g9
    repeat' (first | refine g_pv rfl rfl ?_ | refine g_nil ?_ | refine gq_then ?_ | refine gc_seq ?_ | refine gc_region ?_ | refine gc_ret ?_ | refine gq_then_ret ?_ | refine gq_block_ret ?_)
    refine gq_ret1 (.inr rfl) rfl rfl rfl (fun w' H => ⟨false, ?_, rfl, hp_nil H⟩)
    rw [hO, hR, relsB_no (by
      rw [hB, show (4 : Nat) = (m + 1) + (3 - m) from by omega, List.take_add, List.all_append, htk, List.all_append, hall]
      simp [g9'])]
  have g9' : (c == 0) = true := by simpa using g9
  repeat' (first | refine g_pv rfl rfl ?_ | refine g_nil ?_ | refine gq_then ?_ | refine gc_region ?_ | refine gc_skip ?_ | refine gq_block ?_)
  refine gq_again (m + 1) ⟨hmlt, ?_⟩ (by omega) ⟨rfl, rfl, rfl, rfl, rfl, inc_eq (by omega), trivial⟩ (fun w' H => H)
  rw [htk, List.all_append, hall]; simp [g9']
end Go.Proofs.YtpohhfggmaihpaaGreatDoor
