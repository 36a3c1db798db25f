/-
  tac's judge: right.
-/
import Derived.Test.YtpohhfggmaihpaaGreatDoorZ11

/- tac's judge: right. -/
namespace Go.Proofs.YtpohhfggmaihpaaGreatDoor
open Go.Wk
set_option linter.unusedVariables false
set_option linter.unusedSimpArgs false
attribute [local irreducible] G GC GQ GA GS Exit.then Exit.inBlock

/-- The instruction that has just what its operation names. -/
def shapeI (x : Ins) : Ins :=
  if x.op = 1 then ({ op := x.op, bin := 0, d := x.d, a := x.a, b := ⟨0, 0⟩, n := 0, off := 0, width := 0, signed := false, args := [], aA := none, aC := 0 } : Ins) else
  if x.op = 2 then ({ op := x.op, bin := x.bin, d := x.d, a := x.a, b := x.b, n := 0, off := 0, width := 0, signed := false, args := [], aA := none, aC := 0 } : Ins) else
  if x.op = 3 then ({ op := x.op, bin := 0, d := x.d, a := ⟨0, 0⟩, b := ⟨0, 0⟩, n := x.n, off := x.off, width := 0, signed := false, args := [], aA := none, aC := 0 } : Ins) else
  if x.op = 4 then ({ op := x.op, bin := 0, d := x.d, a := ⟨0, 0⟩, b := ⟨0, 0⟩, n := x.n, off := x.off, width := 0, signed := false, args := [], aA := none, aC := 0 } : Ins) else
  if x.op = 5 then ({ op := x.op, bin := 0, d := x.d, a := x.a, b := ⟨0, 0⟩, n := 0, off := x.off, width := x.width, signed := x.signed, args := [], aA := none, aC := 0 } : Ins) else
  if x.op = 6 then ({ op := x.op, bin := 0, d := -1, a := x.a, b := x.b, n := 0, off := x.off, width := x.width, signed := false, args := [], aA := none, aC := 0 } : Ins) else
  if x.op = 7 then ({ op := x.op, bin := 0, d := -1, a := x.a, b := x.b, n := 0, off := x.off, width := x.width, signed := false, args := [], aA := none, aC := 0 } : Ins) else
  if x.op = 8 then ({ op := x.op, bin := 0, d := x.d, a := ⟨0, 0⟩, b := ⟨0, 0⟩, n := x.n, off := 0, width := 0, signed := false, args := [], aA := none, aC := 0 } : Ins) else
  if x.op = 9 then ({ op := x.op, bin := 0, d := -1, a := x.a, b := ⟨0, 0⟩, n := 0, off := 0, width := 0, signed := false, args := [], aA := none, aC := 0 } : Ins) else
  if x.op = 10 then ({ op := x.op, bin := 0, d := -1, a := ⟨0, 0⟩, b := ⟨0, 0⟩, n := x.n, off := 0, width := 0, signed := false, args := [], aA := none, aC := 0 } : Ins) else
  if x.op = 11 then ({ op := x.op, bin := 0, d := -1, a := x.a, b := ⟨0, 0⟩, n := x.n, off := 0, width := 0, signed := false, args := [], aA := none, aC := 0 } : Ins) else
  if x.op = 12 then ({ op := x.op, bin := 0, d := -1, a := x.a, b := ⟨0, 0⟩, n := 0, off := 0, width := 0, signed := false, args := [], aA := none, aC := 0 } : Ins) else
  if x.op = 13 then ({ op := x.op, bin := 0, d := x.d, a := ⟨0, 0⟩, b := ⟨0, 0⟩, n := 0, off := 0, width := 0, signed := false, args := [], aA := none, aC := 0 } : Ins) else
  if x.op = 14 then ({ op := x.op, bin := 0, d := -1, a := x.a, b := ⟨0, 0⟩, n := 0, off := 0, width := 0, signed := false, args := [], aA := none, aC := 0 } : Ins) else
  { op := x.op, bin := 0, d := -1, a := ⟨0, 0⟩, b := ⟨0, 0⟩, n := 0, off := 0, width := 0, signed := false, args := [], aA := none, aC := 0 }
theorem shape1 {x : Ins} (h : x.op = 1) : shapeI x = { op := x.op, bin := 0, d := x.d, a := x.a, b := ⟨0, 0⟩, n := 0, off := 0, width := 0, signed := false, args := [], aA := none, aC := 0 } := by simp [shapeI, h]
theorem shape2 {x : Ins} (h : x.op = 2) : shapeI x = { op := x.op, bin := x.bin, d := x.d, a := x.a, b := x.b, n := 0, off := 0, width := 0, signed := false, args := [], aA := none, aC := 0 } := by simp [shapeI, h]
theorem shape3 {x : Ins} (h : x.op = 3) : shapeI x = { op := x.op, bin := 0, d := x.d, a := ⟨0, 0⟩, b := ⟨0, 0⟩, n := x.n, off := x.off, width := 0, signed := false, args := [], aA := none, aC := 0 } := by simp [shapeI, h]
theorem shape4 {x : Ins} (h : x.op = 4) : shapeI x = { op := x.op, bin := 0, d := x.d, a := ⟨0, 0⟩, b := ⟨0, 0⟩, n := x.n, off := x.off, width := 0, signed := false, args := [], aA := none, aC := 0 } := by simp [shapeI, h]
theorem shape5 {x : Ins} (h : x.op = 5) : shapeI x = { op := x.op, bin := 0, d := x.d, a := x.a, b := ⟨0, 0⟩, n := 0, off := x.off, width := x.width, signed := x.signed, args := [], aA := none, aC := 0 } := by simp [shapeI, h]
theorem shape6 {x : Ins} (h : x.op = 6) : shapeI x = { op := x.op, bin := 0, d := -1, a := x.a, b := x.b, n := 0, off := x.off, width := x.width, signed := false, args := [], aA := none, aC := 0 } := by simp [shapeI, h]
theorem shape7 {x : Ins} (h : x.op = 7) : shapeI x = { op := x.op, bin := 0, d := -1, a := x.a, b := x.b, n := 0, off := x.off, width := x.width, signed := false, args := [], aA := none, aC := 0 } := by simp [shapeI, h]
theorem shape8 {x : Ins} (h : x.op = 8) : shapeI x = { op := x.op, bin := 0, d := x.d, a := ⟨0, 0⟩, b := ⟨0, 0⟩, n := x.n, off := 0, width := 0, signed := false, args := [], aA := none, aC := 0 } := by simp [shapeI, h]
theorem shape9 {x : Ins} (h : x.op = 9) : shapeI x = { op := x.op, bin := 0, d := -1, a := x.a, b := ⟨0, 0⟩, n := 0, off := 0, width := 0, signed := false, args := [], aA := none, aC := 0 } := by simp [shapeI, h]
theorem shape10 {x : Ins} (h : x.op = 10) : shapeI x = { op := x.op, bin := 0, d := -1, a := ⟨0, 0⟩, b := ⟨0, 0⟩, n := x.n, off := 0, width := 0, signed := false, args := [], aA := none, aC := 0 } := by simp [shapeI, h]
theorem shape11 {x : Ins} (h : x.op = 11) : shapeI x = { op := x.op, bin := 0, d := -1, a := x.a, b := ⟨0, 0⟩, n := x.n, off := 0, width := 0, signed := false, args := [], aA := none, aC := 0 } := by simp [shapeI, h]
theorem shape12 {x : Ins} (h : x.op = 12) : shapeI x = { op := x.op, bin := 0, d := -1, a := x.a, b := ⟨0, 0⟩, n := 0, off := 0, width := 0, signed := false, args := [], aA := none, aC := 0 } := by simp [shapeI, h]
theorem shape13 {x : Ins} (h : x.op = 13) : shapeI x = { op := x.op, bin := 0, d := x.d, a := ⟨0, 0⟩, b := ⟨0, 0⟩, n := 0, off := 0, width := 0, signed := false, args := [], aA := none, aC := 0 } := by simp [shapeI, h]
theorem shape14 {x : Ins} (h : x.op = 14) : shapeI x = { op := x.op, bin := 0, d := -1, a := x.a, b := ⟨0, 0⟩, n := 0, off := 0, width := 0, signed := false, args := [], aA := none, aC := 0 } := by simp [shapeI, h]
def argsN (x : Ins) : Int := if x.op = 8 then x.args.length else 0
/-- Is what the row of its operation says so? -/
def okI (nb : Bool) (j : Jg) (x : Ins) : Bool :=
  if x.op = 1 then inB x.d j.f.te && argB j.f.te x.a else
  if x.op = 2 then inB x.d j.f.te && (argB j.f.te x.a && (argB j.f.te x.b && ((nameL x.bin).toList != (⟨#[]⟩ : ByteArray).toList))) else
  if x.op = 3 then inB x.d j.f.te && (inB x.n j.f.slots.length && (match j.f.slots[x.n.toNat]? with | some s => inB x.off (IntKind.i64.wrap (s.size + 1)) | none => false)) else
  if x.op = 4 then inB x.d j.f.te && (inB x.n j.p.obs.length && (match j.p.obs[x.n.toNat]? with | some s => inB x.off (IntKind.i64.wrap (s.size + 1)) | none => false)) else
  if x.op = 5 then inB x.d j.f.te && (argB j.f.te x.a && (offB x && (decide (x.width < 4) || !x.signed))) else
  if x.op = 6 then argB j.f.te x.a && (argB j.f.te x.b && offB x) else
  if x.op = 7 then argB j.f.te x.a && (argB j.f.te x.b && (powB x.width && (decide (x.off ≥ 1) && (decide (x.off ≤ 16384) && (x.off.tmod x.width == 0))))) else
  if x.op = 8 then inB x.n j.p.fns.length && (match j.p.fns[x.n.toNat]? with | some g => callB j x g | none => false) else
  if x.op = 9 then (j.f.gi && argB j.f.te x.a) || (!j.f.gi && (x.a.k == 0 && x.a.n == 0)) else
  if x.op = 10 then inB x.n j.f.code.length else
  if x.op = 11 then inB x.n j.f.code.length && argB j.f.te x.a else
  if x.op = 12 then argB j.f.te x.a else
  if x.op = 13 then inB x.d j.f.te else
  if x.op = 14 then argB j.f.te x.a else false
def rightB (nb : Bool) (j : Jg) (x : Ins) : Bool := okI nb j x && (((x.args.length : Int) == argsN x) && alikeB x (shapeI x))

set_option maxHeartbeats 16000000 in
theorem right_sp (j : Jg) (x : Ins) (w : World) (hx : InsIn (hw w) x) (hj : JgIn (hw w) j) : Sp Tryz.prog 48 [j.val, x.val] w [] (fun b : Bool => .bool b) (fun _ => []) (fun b => ∃ nb, b = rightB nb j x) := by
  refine enter (s := Tryz.sx) [] Tryz.func48 rfl rfl rfl (Eff.refl w) ?_
  refine gc_seq ?_
  repeat' (first | refine g_pv rfl rfl ?_ | refine g_nil ?_ | refine gq_then ?_ | refine gc_region ?_ | refine g_box rfl rfl (fun _ => ?_))
  rename_i b2 b3
  refine gc_seq ?_
  repeat' (first | refine g_pv rfl rfl ?_ | refine g_ld 0 rfl rfl rfl rfl rfl rfl ?_ | refine gc_region ?_)
  refine g_p (p_build rfl rfl rfl rfl) rfl ?_
  repeat' (first | refine g_nil ?_ | refine gq_then ?_ | refine g_alloc rfl rfl (fun _ => ?_) | refine g_st 0 rfl rfl rfl rfl rfl rfl rfl ?_)
  rename_i b5
  refine gc_seq ?_
  repeat' (first | refine g_pv rfl rfl ?_ | refine g_nil ?_ | refine gq_then ?_ | refine gc_region ?_)
  refine gc_seq ?_
  repeat' (first | refine g_pv rfl rfl ?_ | refine g_ld 1 rfl rfl rfl rfl rfl rfl ?_ | refine g_ld 2 rfl rfl rfl rfl rfl rfl ?_ | refine gc_region ?_)
  refine g_call rfl (Cl.of Tryz.func23 rfl rfl) rfl rfl (fun w' hE => within_sp x.d j.f.te w') rfl (fun _ _ => ?_)
  repeat' (first | refine g_pv rfl rfl ?_ | refine g_nil ?_ | refine gq_then ?_)
  refine gc_seq ?_
  repeat' (first | refine g_pv rfl rfl ?_ | refine g_nil ?_ | refine gq_then ?_ | refine gc_region ?_)
  refine gc_heap (R' := [[(b5, .cells ⟨[.int .i64 x.op, .int .i64 0, .int .i64 (-1), .int .i64 0, .int .u32 0, .int .i64 0, .int .u32 0, .int .i64 0, .int .i64 0, .int .i64 0, .bool false, .slice none 0 0]⟩ 43 (0, 0))], [(b3, .cells ⟨x.cells⟩ 43 (0, 0))], [(b2, .cells ⟨j.cells⟩ 59 (0, 0))]]) (fun w H => H) ?_
  refine gc_cut (Y := Bool) (fun _ => True) (fun nb => [(2, .pointer (some ⟨b2, 0, none⟩)), (3, .pointer (some ⟨b3, 0, none⟩)), (5, .pointer (some ⟨b5, 0, none⟩)), (6, .bool (okI nb j x)), (8, .int .i64 (argsN x))])
    (fun nb => [[(b5, .cells ⟨(shapeI x).cells⟩ 43 (0, 0))], [(b3, .cells ⟨x.cells⟩ 43 (0, 0))], [(b2, .cells ⟨j.cells⟩ 59 (0, 0))]]) ?_ ?_
  rotate_left
  · rintro nb -
    dsimp only
    repeat' (first | refine g_pv rfl rfl ?_ | refine gc_seq ?_ | refine gc_region ?_)
    refine g_case (t := 357) rfl (fun h1 => ?_) (fun h1 => ?_)
    rotate_left
    · repeat' (first | refine g_pv rfl rfl ?_ | refine g_nil ?_ | refine gq_then ?_ | refine gc_ret ?_ | refine g_no rfl rfl rfl rfl rfl ?_)
      refine gq_ret1 (.inr rfl) rfl rfl rfl (fun w' H => ⟨false, ⟨nb, ?_⟩, rfl, hp_nil H⟩)
      unfold rightB; rw [h1]; rfl
    repeat' (first | refine g_pv rfl rfl ?_ | refine g_ld 1 rfl rfl rfl rfl rfl rfl ?_ | refine g_yes rfl rfl rfl ?_)
    refine g_case (t := 364) rfl (fun h2 => ?_) (fun h2 => ?_)
    rotate_left
    · repeat' (first | refine g_pv rfl rfl ?_ | refine g_nil ?_ | refine gq_then ?_ | refine gc_ret ?_ | refine g_no rfl rfl rfl rfl rfl ?_)
      refine gq_ret1 (.inr rfl) rfl rfl rfl (fun w' H => ⟨false, ⟨nb, ?_⟩, rfl, hp_nil H⟩)
      unfold rightB; rw [h1, h2]; rfl
    repeat' (first | refine g_ld 0 rfl rfl rfl rfl rfl rfl ?_ | refine g_ld 1 rfl rfl rfl rfl rfl rfl ?_ | refine g_yes rfl rfl rfl ?_)
    refine g_call rfl (Cl.of Tryz.func82 rfl rfl) rfl rfl (fun w' hE => alike_sp x (shapeI x) w') rfl ?_
    rintro b hb
    repeat' (first | refine g_pv rfl rfl ?_ | refine g_nil ?_ | refine gq_then ?_ | refine gc_ret ?_)
    refine gq_ret1 (.inr rfl) rfl rfl rfl (fun w' H => ⟨b, ⟨nb, ?_⟩, rfl, hp_nil H⟩)
    unfold rightB; rw [h1, h2, hb]; rfl
  repeat' (first | refine g_pv rfl rfl ?_ | refine g_ld 1 rfl rfl rfl rfl rfl rfl ?_ | refine g_nil ?_ | refine gq_then ?_ | refine gc_seq ?_ | refine gc_region ?_ | refine gc_block ?_)
  refine gc_condC rfl (fun c1 => ?_) (fun c1 => ?_)
  · have hop : x.op = 1 := beq_iff_eq.1 c1
    repeat' (refine gc_seq ?_)
    refine gc_draw [[(b3, .cells ⟨x.cells⟩ 43 (0, 0))], [(b2, .cells ⟨j.cells⟩ 59 (0, 0))]] [_] rfl List.perm_append_comm ?_
    (refine ga_p 0 (by repeat first | exact NoP.sp | apply NoP.then | apply NoP.block) rfl (pv_spec rfl) rfl (by kernel_rfl) (by kernel_rfl) (by kernel_rfl) ?_); (refine ga_ld 1 0 (by repeat first | exact NoP.sp | apply NoP.then | apply NoP.block) rfl wanted_none rfl rfl rfl rfl rfl rfl (by kernel_rfl) (by kernel_rfl) (by kernel_rfl) ?_); (refine ga_p 2 (by repeat first | exact NoP.sp | apply NoP.then | apply NoP.block) rfl (pv_spec rfl) rfl (by kernel_rfl) (by kernel_rfl) (by kernel_rfl) ?_); (refine ga_ld 3 0 (by repeat first | exact NoP.sp | apply NoP.then | apply NoP.block) rfl wanted_none rfl rfl rfl rfl rfl rfl (by kernel_rfl) (by kernel_rfl) (by kernel_rfl) ?_); (refine ga_p 4 (by repeat first | exact NoP.sp | apply NoP.then | apply NoP.block) rfl (pv_spec rfl) rfl (by kernel_rfl) (by kernel_rfl) (by kernel_rfl) ?_)
    refine ga_one (i := 5) (by kernel_rfl) (gs_of rfl (fun K hK => ?_))
    refine g_st 0 rfl rfl rfl rfl rfl rfl rfl ?_
    refine g_heap (R' := [[(b5, .cells ⟨[.int .i64 x.op, .int .i64 0, .int .i64 x.d, .int .i64 0, .int .u32 0, .int .i64 0, .int .u32 0, .int .i64 0, .int .i64 0, .int .i64 0, .bool false, .slice none 0 0]⟩ 43 (0, 0))], [(b3, .cells ⟨x.cells⟩ 43 (0, 0))], [(b2, .cells ⟨j.cells⟩ 59 (0, 0))]]) (fun w H => H) ?_
    refine g_nil ?_
    refine hK _ _ ⟨[_], List.perm_append_comm⟩ ?_
    (refine ga_p 6 (by repeat first | exact NoP.sp | apply NoP.then | apply NoP.block) rfl (pv_spec rfl) rfl (by kernel_rfl) (by kernel_rfl) (by kernel_rfl) ?_)
    refine ga_one (i := 7) (by kernel_rfl) (gs_of rfl (fun K hK => ?_))
    refine g_st 0 rfl rfl rfl rfl rfl rfl rfl ?_
    refine g_heap (R' := [[(b5, .cells ⟨[.int .i64 x.op, .int .i64 0, .int .i64 x.d, .int .i64 x.a.k, .int .u32 x.a.n, .int .i64 0, .int .u32 0, .int .i64 0, .int .i64 0, .int .i64 0, .bool false, .slice none 0 0]⟩ 43 (0, 0))], [(b3, .cells ⟨x.cells⟩ 43 (0, 0))], [(b2, .cells ⟨j.cells⟩ 59 (0, 0))]]) (fun w H => H) ?_
    refine g_nil ?_
    refine hK _ _ ⟨[_], List.perm_append_comm⟩ ?_
    refine ga_nil (by kernel_rfl) ?_
    repeat' (first | refine g_pv rfl rfl ?_ | refine gq_then ?_ | refine gc_region ?_)
    refine g_case (t := 29) rfl (fun h1 => ?_) (fun h1 => ?_)
    rotate_left
    · have h1 : inB x.d j.f.te = false := h1
      repeat' (first | refine g_pv rfl rfl ?_ | refine g_nil ?_ | refine gq_block ?_ | refine g_no rfl rfl rfl rfl rfl ?_)
      refine gq_at true trivial ⟨rfl, rfl, rfl, congrArg (fun b => some (Value.bool b)) ?_, congrArg (fun n => some (Value.int .i64 n)) ?_, trivial⟩ (fun w' H => ?_)
      · simp [okI, hop, h1]
      · simp [argsN, hop]
      · rw [shape1 hop]; exact H
    have h1 : inB x.d j.f.te = true := h1
    repeat' (first | refine g_pv rfl rfl ?_ | refine g_ld 1 rfl rfl rfl rfl rfl rfl ?_ | refine g_ld 2 rfl rfl rfl rfl rfl rfl ?_ | refine g_yes rfl rfl rfl ?_)
    refine g_call rfl (Cl.of Tryz.func79 rfl rfl) rfl rfl (fun w' hE => arg_sp j x.a w' (hx.ok x.a (by simp)) hj.f.te) rfl ?_
    rintro q2 hq2
    have hq2 : argB j.f.te x.a = q2 := hq2.symm
    cases q2
    · -- no
      repeat' (first | refine g_pv rfl rfl ?_ | refine g_nil ?_ | refine gq_block ?_)
      refine gq_at true trivial ⟨rfl, rfl, rfl, congrArg (fun b => some (Value.bool b)) ?_, congrArg (fun n => some (Value.int .i64 n)) ?_, trivial⟩ (fun w' H => ?_)
      · simp [okI, hop, h1, hq2]
      · simp [argsN, hop]
      · rw [shape1 hop]; exact H
    · -- yes
      repeat' (first | refine g_pv rfl rfl ?_ | refine g_nil ?_ | refine gq_block ?_)
      repeat' (fail)
      refine gq_at true trivial ⟨rfl, rfl, rfl, congrArg (fun b => some (Value.bool b)) ?_, congrArg (fun n => some (Value.int .i64 n)) ?_, trivial⟩ (fun w' H => ?_)
      · simp [okI, hop, h1, hq2]
      · simp [argsN, hop]
      · rw [shape1 hop]; exact H
  repeat' (first | refine g_pv rfl rfl ?_ | refine g_nil ?_ | refine gq_then ?_ | refine gc_seq ?_ | refine gc_region ?_)
  refine gc_condC rfl (fun c2 => ?_) (fun c2 => ?_)
  · have hop : x.op = 2 := beq_iff_eq.1 c2
    repeat' (refine gc_seq ?_)
    refine gc_draw [[(b3, .cells ⟨x.cells⟩ 43 (0, 0))], [(b2, .cells ⟨j.cells⟩ 59 (0, 0))]] [_] rfl List.perm_append_comm ?_
    (refine ga_p 0 (by repeat first | exact NoP.sp | apply NoP.then | apply NoP.block) rfl (pv_spec rfl) rfl (by kernel_rfl) (by kernel_rfl) (by kernel_rfl) ?_); (refine ga_ld 1 0 (by repeat first | exact NoP.sp | apply NoP.then | apply NoP.block) rfl wanted_none rfl rfl rfl rfl rfl rfl (by kernel_rfl) (by kernel_rfl) (by kernel_rfl) ?_); (refine ga_p 2 (by repeat first | exact NoP.sp | apply NoP.then | apply NoP.block) rfl (pv_spec rfl) rfl (by kernel_rfl) (by kernel_rfl) (by kernel_rfl) ?_); (refine ga_ld 3 0 (by repeat first | exact NoP.sp | apply NoP.then | apply NoP.block) rfl wanted_none rfl rfl rfl rfl rfl rfl (by kernel_rfl) (by kernel_rfl) (by kernel_rfl) ?_); (refine ga_p 4 (by repeat first | exact NoP.sp | apply NoP.then | apply NoP.block) rfl (pv_spec rfl) rfl (by kernel_rfl) (by kernel_rfl) (by kernel_rfl) ?_); (refine ga_ld 5 0 (by repeat first | exact NoP.sp | apply NoP.then | apply NoP.block) rfl wanted_none rfl rfl rfl rfl rfl rfl (by kernel_rfl) (by kernel_rfl) (by kernel_rfl) ?_); (refine ga_p 6 (by repeat first | exact NoP.sp | apply NoP.then | apply NoP.block) rfl (pv_spec rfl) rfl (by kernel_rfl) (by kernel_rfl) (by kernel_rfl) ?_); (refine ga_ld 7 0 (by repeat first | exact NoP.sp | apply NoP.then | apply NoP.block) rfl wanted_none rfl rfl rfl rfl rfl rfl (by kernel_rfl) (by kernel_rfl) (by kernel_rfl) ?_); (refine ga_p 8 (by repeat first | exact NoP.sp | apply NoP.then | apply NoP.block) rfl (pv_spec rfl) rfl (by kernel_rfl) (by kernel_rfl) (by kernel_rfl) ?_)
    refine ga_one (i := 9) (by kernel_rfl) (gs_of rfl (fun K hK => ?_))
    refine g_st 0 rfl rfl rfl rfl rfl rfl rfl ?_
    refine g_heap (R' := [[(b5, .cells ⟨[.int .i64 x.op, .int .i64 0, .int .i64 x.d, .int .i64 0, .int .u32 0, .int .i64 0, .int .u32 0, .int .i64 0, .int .i64 0, .int .i64 0, .bool false, .slice none 0 0]⟩ 43 (0, 0))], [(b3, .cells ⟨x.cells⟩ 43 (0, 0))], [(b2, .cells ⟨j.cells⟩ 59 (0, 0))]]) (fun w H => H) ?_
    refine g_nil ?_
    refine hK _ _ ⟨[_], List.perm_append_comm⟩ ?_
    (refine ga_p 10 (by repeat first | exact NoP.sp | apply NoP.then | apply NoP.block) rfl (pv_spec rfl) rfl (by kernel_rfl) (by kernel_rfl) (by kernel_rfl) ?_)
    refine ga_one (i := 11) (by kernel_rfl) (gs_of rfl (fun K hK => ?_))
    refine g_st 0 rfl rfl rfl rfl rfl rfl rfl ?_
    refine g_heap (R' := [[(b5, .cells ⟨[.int .i64 x.op, .int .i64 0, .int .i64 x.d, .int .i64 x.a.k, .int .u32 x.a.n, .int .i64 0, .int .u32 0, .int .i64 0, .int .i64 0, .int .i64 0, .bool false, .slice none 0 0]⟩ 43 (0, 0))], [(b3, .cells ⟨x.cells⟩ 43 (0, 0))], [(b2, .cells ⟨j.cells⟩ 59 (0, 0))]]) (fun w H => H) ?_
    refine g_nil ?_
    refine hK _ _ ⟨[_], List.perm_append_comm⟩ ?_
    (refine ga_p 12 (by repeat first | exact NoP.sp | apply NoP.then | apply NoP.block) rfl (pv_spec rfl) rfl (by kernel_rfl) (by kernel_rfl) (by kernel_rfl) ?_)
    refine ga_one (i := 13) (by kernel_rfl) (gs_of rfl (fun K hK => ?_))
    refine g_st 0 rfl rfl rfl rfl rfl rfl rfl ?_
    refine g_heap (R' := [[(b5, .cells ⟨[.int .i64 x.op, .int .i64 0, .int .i64 x.d, .int .i64 x.a.k, .int .u32 x.a.n, .int .i64 x.b.k, .int .u32 x.b.n, .int .i64 0, .int .i64 0, .int .i64 0, .bool false, .slice none 0 0]⟩ 43 (0, 0))], [(b3, .cells ⟨x.cells⟩ 43 (0, 0))], [(b2, .cells ⟨j.cells⟩ 59 (0, 0))]]) (fun w H => H) ?_
    refine g_nil ?_
    refine hK _ _ ⟨[_], List.perm_append_comm⟩ ?_
    (refine ga_p 14 (by repeat first | exact NoP.sp | apply NoP.then | apply NoP.block) rfl (pv_spec rfl) rfl (by kernel_rfl) (by kernel_rfl) (by kernel_rfl) ?_)
    refine ga_one (i := 15) (by kernel_rfl) (gs_of rfl (fun K hK => ?_))
    refine g_st 0 rfl rfl rfl rfl rfl rfl rfl ?_
    refine g_heap (R' := [[(b5, .cells ⟨[.int .i64 x.op, .int .i64 x.bin, .int .i64 x.d, .int .i64 x.a.k, .int .u32 x.a.n, .int .i64 x.b.k, .int .u32 x.b.n, .int .i64 0, .int .i64 0, .int .i64 0, .bool false, .slice none 0 0]⟩ 43 (0, 0))], [(b3, .cells ⟨x.cells⟩ 43 (0, 0))], [(b2, .cells ⟨j.cells⟩ 59 (0, 0))]]) (fun w H => H) ?_
    refine g_nil ?_
    refine hK _ _ ⟨[_], List.perm_append_comm⟩ ?_
    refine ga_nil (by kernel_rfl) ?_
    repeat' (first | refine g_pv rfl rfl ?_ | refine gq_then ?_ | refine gc_region ?_)
    refine g_case (t := 50) rfl (fun h3 => ?_) (fun h3 => ?_)
    rotate_left
    · have h3 : inB x.d j.f.te = false := h3
      repeat' (first | refine g_pv rfl rfl ?_ | refine g_nil ?_ | refine gq_block ?_ | refine g_no rfl rfl rfl rfl rfl ?_)
      refine gq_at true trivial ⟨rfl, rfl, rfl, congrArg (fun b => some (Value.bool b)) ?_, congrArg (fun n => some (Value.int .i64 n)) ?_, trivial⟩ (fun w' H => ?_)
      · simp [okI, hop, h3]
      · simp [argsN, hop]
      · rw [shape2 hop]; exact H
    have h3 : inB x.d j.f.te = true := h3
    repeat' (first | refine g_pv rfl rfl ?_ | refine g_ld 1 rfl rfl rfl rfl rfl rfl ?_ | refine g_ld 2 rfl rfl rfl rfl rfl rfl ?_ | refine g_yes rfl rfl rfl ?_)
    refine g_call rfl (Cl.of Tryz.func79 rfl rfl) rfl rfl (fun w' hE => arg_sp j x.a w' (hx.ok x.a (by simp)) hj.f.te) rfl ?_
    rintro q4 hq4
    have hq4 : argB j.f.te x.a = q4 := hq4.symm
    cases q4
    · -- no
      repeat' (first | refine g_pv rfl rfl ?_ | refine g_nil ?_ | refine gq_block ?_ | refine g_no rfl rfl rfl rfl rfl ?_)
      refine gq_at true trivial ⟨rfl, rfl, rfl, congrArg (fun b => some (Value.bool b)) ?_, congrArg (fun n => some (Value.int .i64 n)) ?_, trivial⟩ (fun w' H => ?_)
      · simp [okI, hop, h3, hq4]
      · simp [argsN, hop]
      · rw [shape2 hop]; exact H
    · -- yes
      repeat' (first | refine g_pv rfl rfl ?_ | refine g_ld 1 rfl rfl rfl rfl rfl rfl ?_ | refine g_ld 2 rfl rfl rfl rfl rfl rfl ?_ | refine g_yes rfl rfl rfl ?_)
      refine g_call rfl (Cl.of Tryz.func79 rfl rfl) rfl rfl (fun w' hE => arg_sp j x.b w' (hx.ok x.b (by simp)) hj.f.te) rfl ?_
      rintro q5 hq5
      have hq5 : argB j.f.te x.b = q5 := hq5.symm
      cases q5
      · -- no
        repeat' (first | refine g_pv rfl rfl ?_ | refine g_nil ?_ | refine gq_block ?_ | refine g_no rfl rfl rfl rfl rfl ?_)
        refine gq_at true trivial ⟨rfl, rfl, rfl, congrArg (fun b => some (Value.bool b)) ?_, congrArg (fun n => some (Value.int .i64 n)) ?_, trivial⟩ (fun w' H => ?_)
        · simp [okI, hop, h3, hq4, hq5]
        · simp [argsN, hop]
        · rw [shape2 hop]; exact H
      · -- yes
        repeat' (first | refine g_pv rfl rfl ?_ | refine g_ld 1 rfl rfl rfl rfl rfl rfl ?_ | refine g_yes rfl rfl rfl ?_)
        refine g_call rfl (Cl.of Tryz.func61 rfl rfl) rfl rfl (fun w' hE => name_sp x.bin w') rfl ?_
        rintro _ rfl
        repeat' (refine g_yes rfl rfl rfl ?_)
        refine g_p (p_neT rfl rfl rfl) rfl ?_
        repeat' (first | refine g_pv rfl rfl ?_ | refine g_nil ?_ | refine gq_block ?_)
        refine gq_at true trivial ⟨rfl, rfl, rfl, congrArg (fun b => some (Value.bool b)) ?_, congrArg (fun n => some (Value.int .i64 n)) ?_, trivial⟩ (fun w' H => ?_)
        · simp [okI, hop, h3, hq4, hq5]
        · simp [argsN, hop]
        · rw [shape2 hop]; exact H
  repeat' (first | refine g_pv rfl rfl ?_ | refine g_nil ?_ | refine gq_then ?_ | refine gc_seq ?_ | refine gc_region ?_)
  refine gc_condC rfl (fun c3 => ?_) (fun c3 => ?_)
  · have hop : x.op = 3 := beq_iff_eq.1 c3
    repeat' (refine gc_seq ?_)
    refine gc_draw [[(b3, .cells ⟨x.cells⟩ 43 (0, 0))], [(b2, .cells ⟨j.cells⟩ 59 (0, 0))]] [_] rfl List.perm_append_comm ?_
    (refine ga_p 0 (by repeat first | exact NoP.sp | apply NoP.then | apply NoP.block) rfl (pv_spec rfl) rfl (by kernel_rfl) (by kernel_rfl) (by kernel_rfl) ?_); (refine ga_ld 1 0 (by repeat first | exact NoP.sp | apply NoP.then | apply NoP.block) rfl wanted_none rfl rfl rfl rfl rfl rfl (by kernel_rfl) (by kernel_rfl) (by kernel_rfl) ?_); (refine ga_p 2 (by repeat first | exact NoP.sp | apply NoP.then | apply NoP.block) rfl (pv_spec rfl) rfl (by kernel_rfl) (by kernel_rfl) (by kernel_rfl) ?_); (refine ga_ld 3 0 (by repeat first | exact NoP.sp | apply NoP.then | apply NoP.block) rfl wanted_none rfl rfl rfl rfl rfl rfl (by kernel_rfl) (by kernel_rfl) (by kernel_rfl) ?_); (refine ga_p 4 (by repeat first | exact NoP.sp | apply NoP.then | apply NoP.block) rfl (pv_spec rfl) rfl (by kernel_rfl) (by kernel_rfl) (by kernel_rfl) ?_); (refine ga_ld 5 0 (by repeat first | exact NoP.sp | apply NoP.then | apply NoP.block) rfl wanted_none rfl rfl rfl rfl rfl rfl (by kernel_rfl) (by kernel_rfl) (by kernel_rfl) ?_); (refine ga_p 6 (by repeat first | exact NoP.sp | apply NoP.then | apply NoP.block) rfl (pv_spec rfl) rfl (by kernel_rfl) (by kernel_rfl) (by kernel_rfl) ?_)
    refine ga_one (i := 7) (by kernel_rfl) (gs_of rfl (fun K hK => ?_))
    refine g_st 0 rfl rfl rfl rfl rfl rfl rfl ?_
    refine g_heap (R' := [[(b5, .cells ⟨[.int .i64 x.op, .int .i64 0, .int .i64 x.d, .int .i64 0, .int .u32 0, .int .i64 0, .int .u32 0, .int .i64 0, .int .i64 0, .int .i64 0, .bool false, .slice none 0 0]⟩ 43 (0, 0))], [(b3, .cells ⟨x.cells⟩ 43 (0, 0))], [(b2, .cells ⟨j.cells⟩ 59 (0, 0))]]) (fun w H => H) ?_
    refine g_nil ?_
    refine hK _ _ ⟨[_], List.perm_append_comm⟩ ?_
    (refine ga_p 8 (by repeat first | exact NoP.sp | apply NoP.then | apply NoP.block) rfl (pv_spec rfl) rfl (by kernel_rfl) (by kernel_rfl) (by kernel_rfl) ?_)
    refine ga_one (i := 9) (by kernel_rfl) (gs_of rfl (fun K hK => ?_))
    refine g_st 0 rfl rfl rfl rfl rfl rfl rfl ?_
    refine g_heap (R' := [[(b5, .cells ⟨[.int .i64 x.op, .int .i64 0, .int .i64 x.d, .int .i64 0, .int .u32 0, .int .i64 0, .int .u32 0, .int .i64 x.n, .int .i64 0, .int .i64 0, .bool false, .slice none 0 0]⟩ 43 (0, 0))], [(b3, .cells ⟨x.cells⟩ 43 (0, 0))], [(b2, .cells ⟨j.cells⟩ 59 (0, 0))]]) (fun w H => H) ?_
    refine g_nil ?_
    refine hK _ _ ⟨[_], List.perm_append_comm⟩ ?_
    (refine ga_p 10 (by repeat first | exact NoP.sp | apply NoP.then | apply NoP.block) rfl (pv_spec rfl) rfl (by kernel_rfl) (by kernel_rfl) (by kernel_rfl) ?_)
    refine ga_one (i := 11) (by kernel_rfl) (gs_of rfl (fun K hK => ?_))
    refine g_st 0 rfl rfl rfl rfl rfl rfl rfl ?_
    refine g_heap (R' := [[(b5, .cells ⟨[.int .i64 x.op, .int .i64 0, .int .i64 x.d, .int .i64 0, .int .u32 0, .int .i64 0, .int .u32 0, .int .i64 x.n, .int .i64 x.off, .int .i64 0, .bool false, .slice none 0 0]⟩ 43 (0, 0))], [(b3, .cells ⟨x.cells⟩ 43 (0, 0))], [(b2, .cells ⟨j.cells⟩ 59 (0, 0))]]) (fun w H => H) ?_
    refine g_nil ?_
    refine hK _ _ ⟨[_], List.perm_append_comm⟩ ?_
    refine ga_nil (by kernel_rfl) ?_
    repeat' (refine gq_then ?_)
    refine gc_draw [[(b5, .cells ⟨Ins.cells { op := x.op, bin := 0, d := x.d, a := ⟨0, 0⟩, b := ⟨0, 0⟩, n := x.n, off := x.off, width := 0, signed := false, args := [], aA := none, aC := 0 }⟩ 43 (0, 0))], [(b3, .cells ⟨x.cells⟩ 43 (0, 0))], [(b2, .cells ⟨j.cells⟩ 59 (0, 0))]] [] rfl (List.Perm.of_eq rfl) ?_
    (refine ga_p 0 (by repeat first | exact NoP.sp | apply NoP.then | apply NoP.block) rfl (pv_spec rfl) rfl (by kernel_rfl) (by kernel_rfl) (by kernel_rfl) ?_); (refine ga_p 1 (by repeat first | exact NoP.sp | apply NoP.then | apply NoP.block) rfl (pv_spec rfl) rfl (by kernel_rfl) (by kernel_rfl) (by kernel_rfl) ?_)
    refine ga_case (t := 80) rfl (fun h1 => ?_) (fun h1 => ?_)
    rotate_left
    · have h1 : inB x.d j.f.te = false := h1
      (refine ga_n 2 (by repeat first | exact NoP.sp | apply NoP.then | apply NoP.block) rfl rfl rfl rfl rfl rfl (by kernel_rfl) (by kernel_rfl) (by kernel_rfl) ?_); (refine ga_n 3 (by repeat first | exact NoP.sp | apply NoP.then | apply NoP.block) rfl rfl rfl rfl rfl rfl (by kernel_rfl) (by kernel_rfl) (by kernel_rfl) ?_); (refine ga_n 4 (by repeat first | exact NoP.sp | apply NoP.then | apply NoP.block) rfl rfl rfl rfl rfl rfl (by kernel_rfl) (by kernel_rfl) (by kernel_rfl) ?_); (refine ga_n 5 (by repeat first | exact NoP.sp | apply NoP.then | apply NoP.block) rfl rfl rfl rfl rfl rfl (by kernel_rfl) (by kernel_rfl) (by kernel_rfl) ?_); (refine ga_n 6 (by repeat first | exact NoP.sp | apply NoP.then | apply NoP.block) rfl rfl rfl rfl rfl rfl (by kernel_rfl) (by kernel_rfl) (by kernel_rfl) ?_); (refine ga_n 7 (by repeat first | exact NoP.sp | apply NoP.then | apply NoP.block) rfl rfl rfl rfl rfl rfl (by kernel_rfl) (by kernel_rfl) (by kernel_rfl) ?_); (refine ga_n 8 (by repeat first | exact NoP.sp | apply NoP.then | apply NoP.block) rfl rfl rfl rfl rfl rfl (by kernel_rfl) (by kernel_rfl) (by kernel_rfl) ?_); (refine ga_p 9 (by repeat first | exact NoP.sp | apply NoP.then | apply NoP.block) rfl (pv_spec rfl) rfl (by kernel_rfl) (by kernel_rfl) (by kernel_rfl) ?_); (refine ga_p 10 (by repeat first | exact NoP.sp | apply NoP.then | apply NoP.block) rfl (pv_spec rfl) rfl (by kernel_rfl) (by kernel_rfl) (by kernel_rfl) ?_); (refine ga_n 11 (by repeat first | exact NoP.sp | apply NoP.then | apply NoP.block) rfl rfl rfl rfl rfl rfl (by kernel_rfl) (by kernel_rfl) (by kernel_rfl) ?_); (refine ga_n 12 (by repeat first | exact NoP.sp | apply NoP.then | apply NoP.block) rfl rfl rfl rfl rfl rfl (by kernel_rfl) (by kernel_rfl) (by kernel_rfl) ?_); (refine ga_n 13 (by repeat first | exact NoP.sp | apply NoP.then | apply NoP.block) rfl rfl rfl rfl rfl rfl (by kernel_rfl) (by kernel_rfl) (by kernel_rfl) ?_); (refine ga_n 14 (by repeat first | exact NoP.sp | apply NoP.then | apply NoP.block) rfl rfl rfl rfl rfl rfl (by kernel_rfl) (by kernel_rfl) (by kernel_rfl) ?_); (refine ga_n 15 (by repeat first | exact NoP.sp | apply NoP.then | apply NoP.block) rfl rfl rfl rfl rfl rfl (by kernel_rfl) (by kernel_rfl) (by kernel_rfl) ?_); (refine ga_n 16 (by repeat first | exact NoP.sp | apply NoP.then | apply NoP.block) rfl rfl rfl rfl rfl rfl (by kernel_rfl) (by kernel_rfl) (by kernel_rfl) ?_); (refine ga_n 17 (by repeat first | exact NoP.sp | apply NoP.then | apply NoP.block) rfl rfl rfl rfl rfl rfl (by kernel_rfl) (by kernel_rfl) (by kernel_rfl) ?_); (refine ga_n 18 (by repeat first | exact NoP.sp | apply NoP.then | apply NoP.block) rfl rfl rfl rfl rfl rfl (by kernel_rfl) (by kernel_rfl) (by kernel_rfl) ?_); (refine ga_n 19 (by repeat first | exact NoP.sp | apply NoP.then | apply NoP.block) rfl rfl rfl rfl rfl rfl (by kernel_rfl) (by kernel_rfl) (by kernel_rfl) ?_); (refine ga_n 20 (by repeat first | exact NoP.sp | apply NoP.then | apply NoP.block) rfl rfl rfl rfl rfl rfl (by kernel_rfl) (by kernel_rfl) (by kernel_rfl) ?_); (refine ga_n 21 (by repeat first | exact NoP.sp | apply NoP.then | apply NoP.block) rfl rfl rfl rfl rfl rfl (by kernel_rfl) (by kernel_rfl) (by kernel_rfl) ?_); (refine ga_n 22 (by repeat first | exact NoP.sp | apply NoP.then | apply NoP.block) rfl rfl rfl rfl rfl rfl (by kernel_rfl) (by kernel_rfl) (by kernel_rfl) ?_); (refine ga_p 23 (by repeat first | exact NoP.sp | apply NoP.then | apply NoP.block) rfl (pv_spec rfl) rfl (by kernel_rfl) (by kernel_rfl) (by kernel_rfl) ?_); (refine ga_p 24 (by repeat first | exact NoP.sp | apply NoP.then | apply NoP.block) rfl (pv_spec rfl) rfl (by kernel_rfl) (by kernel_rfl) (by kernel_rfl) ?_)
      refine ga_nil (by kernel_rfl) ?_
      repeat' (refine gq_block ?_)
      refine gq_at true trivial ⟨rfl, rfl, rfl, congrArg (fun b => some (Value.bool b)) ?_, congrArg (fun n => some (Value.int .i64 n)) ?_, trivial⟩ (fun w' H => ?_)
      · simp [okI, hop, h1]
      · simp [argsN, hop]
      · rw [shape3 hop]; exact H
    have h1 : inB x.d j.f.te = true := h1
    (refine ga_py 2 (by repeat first | exact NoP.sp | apply NoP.then | apply NoP.block) rfl rfl rfl rfl (pv_spec rfl) rfl (by kernel_rfl) (by kernel_rfl) (by kernel_rfl) ?_); (refine ga_ld 3 1 (by repeat first | exact NoP.sp | apply NoP.then | apply NoP.block) rfl (wanted_yes rfl rfl rfl) rfl rfl rfl rfl rfl rfl (by kernel_rfl) (by kernel_rfl) (by kernel_rfl) ?_); (refine ga_py 4 (by repeat first | exact NoP.sp | apply NoP.then | apply NoP.block) rfl rfl rfl rfl (pv_spec rfl) rfl (by kernel_rfl) (by kernel_rfl) (by kernel_rfl) ?_); (refine ga_py 5 (by repeat first | exact NoP.sp | apply NoP.then | apply NoP.block) rfl rfl rfl rfl (pv_spec rfl) rfl (by kernel_rfl) (by kernel_rfl) (by kernel_rfl) ?_); (refine ga_ld 6 2 (by repeat first | exact NoP.sp | apply NoP.then | apply NoP.block) rfl (wanted_yes rfl rfl rfl) rfl rfl rfl rfl rfl rfl (by kernel_rfl) (by kernel_rfl) (by kernel_rfl) ?_); (refine ga_py 7 (by repeat first | exact NoP.sp | apply NoP.then | apply NoP.block) rfl rfl rfl rfl (pv_spec rfl) rfl (by kernel_rfl) (by kernel_rfl) (by kernel_rfl) ?_)
    refine ga_one (i := 8) (by kernel_rfl) (gs_of rfl (fun K hK => ?_))
    refine g_yes rfl rfl rfl ?_
    refine g_call rfl (Cl.of Tryz.func23 rfl rfl) rfl rfl (fun w' hE => within_sp _ _ w') rfl (fun _ _ => ?_)
    refine g_nil ?_
    refine hK _ _ ⟨[], List.Perm.of_eq rfl⟩ ?_
    (refine ga_p 9 (by repeat first | exact NoP.sp | apply NoP.then | apply NoP.block) rfl (pv_spec rfl) rfl (by kernel_rfl) (by kernel_rfl) (by kernel_rfl) ?_); (refine ga_p 10 (by repeat first | exact NoP.sp | apply NoP.then | apply NoP.block) rfl (pv_spec rfl) rfl (by kernel_rfl) (by kernel_rfl) (by kernel_rfl) ?_)
    refine ga_case (t := 89) rfl (fun h2 => ?_) (fun h2 => ?_)
    rotate_left
    · have h2 : inB x.n j.f.slots.length = false := h2
      (refine ga_n 11 (by repeat first | exact NoP.sp | apply NoP.then | apply NoP.block) rfl rfl rfl rfl rfl rfl (by kernel_rfl) (by kernel_rfl) (by kernel_rfl) ?_); (refine ga_n 12 (by repeat first | exact NoP.sp | apply NoP.then | apply NoP.block) rfl rfl rfl rfl rfl rfl (by kernel_rfl) (by kernel_rfl) (by kernel_rfl) ?_); (refine ga_n 13 (by repeat first | exact NoP.sp | apply NoP.then | apply NoP.block) rfl rfl rfl rfl rfl rfl (by kernel_rfl) (by kernel_rfl) (by kernel_rfl) ?_); (refine ga_n 14 (by repeat first | exact NoP.sp | apply NoP.then | apply NoP.block) rfl rfl rfl rfl rfl rfl (by kernel_rfl) (by kernel_rfl) (by kernel_rfl) ?_); (refine ga_n 15 (by repeat first | exact NoP.sp | apply NoP.then | apply NoP.block) rfl rfl rfl rfl rfl rfl (by kernel_rfl) (by kernel_rfl) (by kernel_rfl) ?_); (refine ga_n 16 (by repeat first | exact NoP.sp | apply NoP.then | apply NoP.block) rfl rfl rfl rfl rfl rfl (by kernel_rfl) (by kernel_rfl) (by kernel_rfl) ?_); (refine ga_n 17 (by repeat first | exact NoP.sp | apply NoP.then | apply NoP.block) rfl rfl rfl rfl rfl rfl (by kernel_rfl) (by kernel_rfl) (by kernel_rfl) ?_); (refine ga_n 18 (by repeat first | exact NoP.sp | apply NoP.then | apply NoP.block) rfl rfl rfl rfl rfl rfl (by kernel_rfl) (by kernel_rfl) (by kernel_rfl) ?_); (refine ga_n 19 (by repeat first | exact NoP.sp | apply NoP.then | apply NoP.block) rfl rfl rfl rfl rfl rfl (by kernel_rfl) (by kernel_rfl) (by kernel_rfl) ?_); (refine ga_n 20 (by repeat first | exact NoP.sp | apply NoP.then | apply NoP.block) rfl rfl rfl rfl rfl rfl (by kernel_rfl) (by kernel_rfl) (by kernel_rfl) ?_); (refine ga_n 21 (by repeat first | exact NoP.sp | apply NoP.then | apply NoP.block) rfl rfl rfl rfl rfl rfl (by kernel_rfl) (by kernel_rfl) (by kernel_rfl) ?_); (refine ga_n 22 (by repeat first | exact NoP.sp | apply NoP.then | apply NoP.block) rfl rfl rfl rfl rfl rfl (by kernel_rfl) (by kernel_rfl) (by kernel_rfl) ?_); (refine ga_p 23 (by repeat first | exact NoP.sp | apply NoP.then | apply NoP.block) rfl (pv_spec rfl) rfl (by kernel_rfl) (by kernel_rfl) (by kernel_rfl) ?_); (refine ga_p 24 (by repeat first | exact NoP.sp | apply NoP.then | apply NoP.block) rfl (pv_spec rfl) rfl (by kernel_rfl) (by kernel_rfl) (by kernel_rfl) ?_)
      refine ga_nil (by kernel_rfl) ?_
      repeat' (refine gq_block ?_)
      refine gq_at true trivial ⟨rfl, rfl, rfl, congrArg (fun b => some (Value.bool b)) ?_, congrArg (fun n => some (Value.int .i64 n)) ?_, trivial⟩ (fun w' H => ?_)
      · simp [okI, hop, h1, h2]
      · simp [argsN, hop]
      · rw [shape3 hop]; exact H
    have h2 : inB x.n j.f.slots.length = true := h2
    have hb2 : 0 ≤ x.n ∧ x.n < j.f.slots.length := by simpa [inB] using h2
    have hlx : j.f.slots[x.n.toNat]? = some (j.f.slots[x.n.toNat]'(by omega)) := List.getElem?_eq_getElem (by omega)
    generalize j.f.slots[x.n.toNat]'(by omega) = q at hlx
    obtain ⟨bb, oo, hA, hc⟩ := hj.f.slots x.n.toNat _ hlx
    (refine ga_py 11 (by repeat first | exact NoP.sp | apply NoP.then | apply NoP.block) rfl rfl rfl rfl (pv_spec rfl) rfl (by kernel_rfl) (by kernel_rfl) (by kernel_rfl) ?_); (refine ga_ld 12 1 (by repeat first | exact NoP.sp | apply NoP.then | apply NoP.block) rfl (wanted_yes rfl rfl rfl) rfl rfl rfl rfl rfl rfl (by kernel_rfl) (by kernel_rfl) (by kernel_rfl) ?_); (refine ga_py 13 (by repeat first | exact NoP.sp | apply NoP.then | apply NoP.block) rfl rfl rfl rfl (pv_spec rfl) rfl (by kernel_rfl) (by kernel_rfl) (by kernel_rfl) ?_); (refine ga_py 14 (by repeat first | exact NoP.sp | apply NoP.then | apply NoP.block) rfl rfl rfl rfl (pv_spec rfl) rfl (by kernel_rfl) (by kernel_rfl) (by kernel_rfl) ?_); (refine ga_ld 15 2 (by repeat first | exact NoP.sp | apply NoP.then | apply NoP.block) rfl (wanted_yes rfl rfl rfl) rfl rfl rfl rfl rfl rfl (by kernel_rfl) (by kernel_rfl) (by kernel_rfl) ?_); (refine ga_py 16 (by repeat first | exact NoP.sp | apply NoP.then | apply NoP.block) rfl rfl rfl rfl (pv_spec rfl) rfl (by kernel_rfl) (by kernel_rfl) (by kernel_rfl) ?_); (refine ga_ld 17 1 (by repeat first | exact NoP.sp | apply NoP.then | apply NoP.block) rfl (wanted_yes rfl rfl rfl) rfl rfl rfl rfl rfl rfl (by kernel_rfl) (by kernel_rfl) (by kernel_rfl) ?_)
    refine ga_py 18 (by repeat first | exact NoP.sp | apply NoP.then | apply NoP.block) rfl rfl rfl rfl (p_ix (bx := bb) (o := oo) (by show some (Value.slice j.f.sA _ _) = _; rw [hA]) rfl rfl rfl hb2.1 hb2.2) rfl (by kernel_rfl) (by kernel_rfl) (by kernel_rfl) ?_
    (refine ga_py 19 (by repeat first | exact NoP.sp | apply NoP.then | apply NoP.block) rfl rfl rfl rfl (pv_spec rfl) rfl (by kernel_rfl) (by kernel_rfl) (by kernel_rfl) ?_)
    refine ga_ldO 20 (cs := [.int .i64 q.size]) (by repeat first | exact NoP.sp | apply NoP.then | apply NoP.block) rfl (wanted_yes rfl rfl rfl) rfl rfl rfl rfl (fun k u hk => ?_) rfl (by kernel_rfl) (by kernel_rfl) (by kernel_rfl) ?_
    · have hk0 : k = 0 := by have := (List.getElem?_eq_some_iff.1 hk).1; simp at this; omega
      subst hk0
      simp only [List.getElem?_cons_zero, Option.some.injEq] at hk; subst hk
      exact (old_le0 _ w).cell (hc 0 _ rfl)
    (refine ga_py 21 (by repeat first | exact NoP.sp | apply NoP.then | apply NoP.block) rfl rfl rfl rfl (pv_spec rfl) rfl (by kernel_rfl) (by kernel_rfl) (by kernel_rfl) ?_)
    refine ga_one (i := 22) (by kernel_rfl) (gs_of rfl (fun K hK => ?_))
    refine g_yes rfl rfl rfl ?_
    refine g_call rfl (Cl.of Tryz.func23 rfl rfl) rfl rfl (fun w' hE => within_sp _ _ w') rfl (fun _ _ => ?_)
    refine g_nil ?_
    refine hK _ _ ⟨[], List.Perm.of_eq rfl⟩ ?_
    (refine ga_p 23 (by repeat first | exact NoP.sp | apply NoP.then | apply NoP.block) rfl (pv_spec rfl) rfl (by kernel_rfl) (by kernel_rfl) (by kernel_rfl) ?_); (refine ga_p 24 (by repeat first | exact NoP.sp | apply NoP.then | apply NoP.block) rfl (pv_spec rfl) rfl (by kernel_rfl) (by kernel_rfl) (by kernel_rfl) ?_)
    refine ga_nil (by kernel_rfl) ?_
    repeat' (refine gq_block ?_)
    refine gq_at true trivial ⟨rfl, rfl, rfl, congrArg (fun b => some (Value.bool b)) ?_, congrArg (fun n => some (Value.int .i64 n)) ?_, trivial⟩ (fun w' H => ?_)
    · show inB x.off (IntKind.i64.wrap (q.size + 1)) = _; simp [okI, hop, h1, h2, hlx]
    · simp [argsN, hop]
    · rw [shape3 hop]; exact H
  repeat' (first | refine g_pv rfl rfl ?_ | refine g_nil ?_ | refine gq_then ?_ | refine gc_seq ?_ | refine gc_region ?_)
  refine gc_condC rfl (fun c4 => ?_) (fun c4 => ?_)
  · have hop : x.op = 4 := beq_iff_eq.1 c4
    repeat' (refine gc_seq ?_)
    refine gc_draw [[(b3, .cells ⟨x.cells⟩ 43 (0, 0))], [(b2, .cells ⟨j.cells⟩ 59 (0, 0))]] [_] rfl List.perm_append_comm ?_
    (refine ga_p 0 (by repeat first | exact NoP.sp | apply NoP.then | apply NoP.block) rfl (pv_spec rfl) rfl (by kernel_rfl) (by kernel_rfl) (by kernel_rfl) ?_); (refine ga_ld 1 0 (by repeat first | exact NoP.sp | apply NoP.then | apply NoP.block) rfl wanted_none rfl rfl rfl rfl rfl rfl (by kernel_rfl) (by kernel_rfl) (by kernel_rfl) ?_); (refine ga_p 2 (by repeat first | exact NoP.sp | apply NoP.then | apply NoP.block) rfl (pv_spec rfl) rfl (by kernel_rfl) (by kernel_rfl) (by kernel_rfl) ?_); (refine ga_ld 3 0 (by repeat first | exact NoP.sp | apply NoP.then | apply NoP.block) rfl wanted_none rfl rfl rfl rfl rfl rfl (by kernel_rfl) (by kernel_rfl) (by kernel_rfl) ?_); (refine ga_p 4 (by repeat first | exact NoP.sp | apply NoP.then | apply NoP.block) rfl (pv_spec rfl) rfl (by kernel_rfl) (by kernel_rfl) (by kernel_rfl) ?_); (refine ga_ld 5 0 (by repeat first | exact NoP.sp | apply NoP.then | apply NoP.block) rfl wanted_none rfl rfl rfl rfl rfl rfl (by kernel_rfl) (by kernel_rfl) (by kernel_rfl) ?_); (refine ga_p 6 (by repeat first | exact NoP.sp | apply NoP.then | apply NoP.block) rfl (pv_spec rfl) rfl (by kernel_rfl) (by kernel_rfl) (by kernel_rfl) ?_)
    refine ga_one (i := 7) (by kernel_rfl) (gs_of rfl (fun K hK => ?_))
    refine g_st 0 rfl rfl rfl rfl rfl rfl rfl ?_
    refine g_heap (R' := [[(b5, .cells ⟨[.int .i64 x.op, .int .i64 0, .int .i64 x.d, .int .i64 0, .int .u32 0, .int .i64 0, .int .u32 0, .int .i64 0, .int .i64 0, .int .i64 0, .bool false, .slice none 0 0]⟩ 43 (0, 0))], [(b3, .cells ⟨x.cells⟩ 43 (0, 0))], [(b2, .cells ⟨j.cells⟩ 59 (0, 0))]]) (fun w H => H) ?_
    refine g_nil ?_
    refine hK _ _ ⟨[_], List.perm_append_comm⟩ ?_
    (refine ga_p 8 (by repeat first | exact NoP.sp | apply NoP.then | apply NoP.block) rfl (pv_spec rfl) rfl (by kernel_rfl) (by kernel_rfl) (by kernel_rfl) ?_)
    refine ga_one (i := 9) (by kernel_rfl) (gs_of rfl (fun K hK => ?_))
    refine g_st 0 rfl rfl rfl rfl rfl rfl rfl ?_
    refine g_heap (R' := [[(b5, .cells ⟨[.int .i64 x.op, .int .i64 0, .int .i64 x.d, .int .i64 0, .int .u32 0, .int .i64 0, .int .u32 0, .int .i64 x.n, .int .i64 0, .int .i64 0, .bool false, .slice none 0 0]⟩ 43 (0, 0))], [(b3, .cells ⟨x.cells⟩ 43 (0, 0))], [(b2, .cells ⟨j.cells⟩ 59 (0, 0))]]) (fun w H => H) ?_
    refine g_nil ?_
    refine hK _ _ ⟨[_], List.perm_append_comm⟩ ?_
    (refine ga_p 10 (by repeat first | exact NoP.sp | apply NoP.then | apply NoP.block) rfl (pv_spec rfl) rfl (by kernel_rfl) (by kernel_rfl) (by kernel_rfl) ?_)
    refine ga_one (i := 11) (by kernel_rfl) (gs_of rfl (fun K hK => ?_))
    refine g_st 0 rfl rfl rfl rfl rfl rfl rfl ?_
    refine g_heap (R' := [[(b5, .cells ⟨[.int .i64 x.op, .int .i64 0, .int .i64 x.d, .int .i64 0, .int .u32 0, .int .i64 0, .int .u32 0, .int .i64 x.n, .int .i64 x.off, .int .i64 0, .bool false, .slice none 0 0]⟩ 43 (0, 0))], [(b3, .cells ⟨x.cells⟩ 43 (0, 0))], [(b2, .cells ⟨j.cells⟩ 59 (0, 0))]]) (fun w H => H) ?_
    refine g_nil ?_
    refine hK _ _ ⟨[_], List.perm_append_comm⟩ ?_
    refine ga_nil (by kernel_rfl) ?_
    repeat' (refine gq_then ?_)
    refine gc_draw [[(b5, .cells ⟨Ins.cells { op := x.op, bin := 0, d := x.d, a := ⟨0, 0⟩, b := ⟨0, 0⟩, n := x.n, off := x.off, width := 0, signed := false, args := [], aA := none, aC := 0 }⟩ 43 (0, 0))], [(b3, .cells ⟨x.cells⟩ 43 (0, 0))], [(b2, .cells ⟨j.cells⟩ 59 (0, 0))]] [] rfl (List.Perm.of_eq rfl) ?_
    (refine ga_p 0 (by repeat first | exact NoP.sp | apply NoP.then | apply NoP.block) rfl (pv_spec rfl) rfl (by kernel_rfl) (by kernel_rfl) (by kernel_rfl) ?_); (refine ga_p 1 (by repeat first | exact NoP.sp | apply NoP.then | apply NoP.block) rfl (pv_spec rfl) rfl (by kernel_rfl) (by kernel_rfl) (by kernel_rfl) ?_)
    refine ga_case (t := 115) rfl (fun h1 => ?_) (fun h1 => ?_)
    rotate_left
    · have h1 : inB x.d j.f.te = false := h1
      (refine ga_n 2 (by repeat first | exact NoP.sp | apply NoP.then | apply NoP.block) rfl rfl rfl rfl rfl rfl (by kernel_rfl) (by kernel_rfl) (by kernel_rfl) ?_); (refine ga_n 3 (by repeat first | exact NoP.sp | apply NoP.then | apply NoP.block) rfl rfl rfl rfl rfl rfl (by kernel_rfl) (by kernel_rfl) (by kernel_rfl) ?_); (refine ga_n 4 (by repeat first | exact NoP.sp | apply NoP.then | apply NoP.block) rfl rfl rfl rfl rfl rfl (by kernel_rfl) (by kernel_rfl) (by kernel_rfl) ?_); (refine ga_n 5 (by repeat first | exact NoP.sp | apply NoP.then | apply NoP.block) rfl rfl rfl rfl rfl rfl (by kernel_rfl) (by kernel_rfl) (by kernel_rfl) ?_); (refine ga_n 6 (by repeat first | exact NoP.sp | apply NoP.then | apply NoP.block) rfl rfl rfl rfl rfl rfl (by kernel_rfl) (by kernel_rfl) (by kernel_rfl) ?_); (refine ga_n 7 (by repeat first | exact NoP.sp | apply NoP.then | apply NoP.block) rfl rfl rfl rfl rfl rfl (by kernel_rfl) (by kernel_rfl) (by kernel_rfl) ?_); (refine ga_n 8 (by repeat first | exact NoP.sp | apply NoP.then | apply NoP.block) rfl rfl rfl rfl rfl rfl (by kernel_rfl) (by kernel_rfl) (by kernel_rfl) ?_); (refine ga_p 9 (by repeat first | exact NoP.sp | apply NoP.then | apply NoP.block) rfl (pv_spec rfl) rfl (by kernel_rfl) (by kernel_rfl) (by kernel_rfl) ?_); (refine ga_p 10 (by repeat first | exact NoP.sp | apply NoP.then | apply NoP.block) rfl (pv_spec rfl) rfl (by kernel_rfl) (by kernel_rfl) (by kernel_rfl) ?_); (refine ga_n 11 (by repeat first | exact NoP.sp | apply NoP.then | apply NoP.block) rfl rfl rfl rfl rfl rfl (by kernel_rfl) (by kernel_rfl) (by kernel_rfl) ?_); (refine ga_n 12 (by repeat first | exact NoP.sp | apply NoP.then | apply NoP.block) rfl rfl rfl rfl rfl rfl (by kernel_rfl) (by kernel_rfl) (by kernel_rfl) ?_); (refine ga_n 13 (by repeat first | exact NoP.sp | apply NoP.then | apply NoP.block) rfl rfl rfl rfl rfl rfl (by kernel_rfl) (by kernel_rfl) (by kernel_rfl) ?_); (refine ga_n 14 (by repeat first | exact NoP.sp | apply NoP.then | apply NoP.block) rfl rfl rfl rfl rfl rfl (by kernel_rfl) (by kernel_rfl) (by kernel_rfl) ?_); (refine ga_n 15 (by repeat first | exact NoP.sp | apply NoP.then | apply NoP.block) rfl rfl rfl rfl rfl rfl (by kernel_rfl) (by kernel_rfl) (by kernel_rfl) ?_); (refine ga_n 16 (by repeat first | exact NoP.sp | apply NoP.then | apply NoP.block) rfl rfl rfl rfl rfl rfl (by kernel_rfl) (by kernel_rfl) (by kernel_rfl) ?_); (refine ga_n 17 (by repeat first | exact NoP.sp | apply NoP.then | apply NoP.block) rfl rfl rfl rfl rfl rfl (by kernel_rfl) (by kernel_rfl) (by kernel_rfl) ?_); (refine ga_n 18 (by repeat first | exact NoP.sp | apply NoP.then | apply NoP.block) rfl rfl rfl rfl rfl rfl (by kernel_rfl) (by kernel_rfl) (by kernel_rfl) ?_); (refine ga_n 19 (by repeat first | exact NoP.sp | apply NoP.then | apply NoP.block) rfl rfl rfl rfl rfl rfl (by kernel_rfl) (by kernel_rfl) (by kernel_rfl) ?_); (refine ga_n 20 (by repeat first | exact NoP.sp | apply NoP.then | apply NoP.block) rfl rfl rfl rfl rfl rfl (by kernel_rfl) (by kernel_rfl) (by kernel_rfl) ?_); (refine ga_n 21 (by repeat first | exact NoP.sp | apply NoP.then | apply NoP.block) rfl rfl rfl rfl rfl rfl (by kernel_rfl) (by kernel_rfl) (by kernel_rfl) ?_); (refine ga_n 22 (by repeat first | exact NoP.sp | apply NoP.then | apply NoP.block) rfl rfl rfl rfl rfl rfl (by kernel_rfl) (by kernel_rfl) (by kernel_rfl) ?_); (refine ga_p 23 (by repeat first | exact NoP.sp | apply NoP.then | apply NoP.block) rfl (pv_spec rfl) rfl (by kernel_rfl) (by kernel_rfl) (by kernel_rfl) ?_); (refine ga_p 24 (by repeat first | exact NoP.sp | apply NoP.then | apply NoP.block) rfl (pv_spec rfl) rfl (by kernel_rfl) (by kernel_rfl) (by kernel_rfl) ?_)
      refine ga_nil (by kernel_rfl) ?_
      repeat' (refine gq_block ?_)
      refine gq_at true trivial ⟨rfl, rfl, rfl, congrArg (fun b => some (Value.bool b)) ?_, congrArg (fun n => some (Value.int .i64 n)) ?_, trivial⟩ (fun w' H => ?_)
      · simp [okI, hop, h1]
      · simp [argsN, hop]
      · rw [shape4 hop]; exact H
    have h1 : inB x.d j.f.te = true := h1
    (refine ga_py 2 (by repeat first | exact NoP.sp | apply NoP.then | apply NoP.block) rfl rfl rfl rfl (pv_spec rfl) rfl (by kernel_rfl) (by kernel_rfl) (by kernel_rfl) ?_); (refine ga_ld 3 1 (by repeat first | exact NoP.sp | apply NoP.then | apply NoP.block) rfl (wanted_yes rfl rfl rfl) rfl rfl rfl rfl rfl rfl (by kernel_rfl) (by kernel_rfl) (by kernel_rfl) ?_); (refine ga_py 4 (by repeat first | exact NoP.sp | apply NoP.then | apply NoP.block) rfl rfl rfl rfl (pv_spec rfl) rfl (by kernel_rfl) (by kernel_rfl) (by kernel_rfl) ?_); (refine ga_py 5 (by repeat first | exact NoP.sp | apply NoP.then | apply NoP.block) rfl rfl rfl rfl (pv_spec rfl) rfl (by kernel_rfl) (by kernel_rfl) (by kernel_rfl) ?_); (refine ga_ld 6 2 (by repeat first | exact NoP.sp | apply NoP.then | apply NoP.block) rfl (wanted_yes rfl rfl rfl) rfl rfl rfl rfl rfl rfl (by kernel_rfl) (by kernel_rfl) (by kernel_rfl) ?_); (refine ga_py 7 (by repeat first | exact NoP.sp | apply NoP.then | apply NoP.block) rfl rfl rfl rfl (pv_spec rfl) rfl (by kernel_rfl) (by kernel_rfl) (by kernel_rfl) ?_)
    refine ga_one (i := 8) (by kernel_rfl) (gs_of rfl (fun K hK => ?_))
    refine g_yes rfl rfl rfl ?_
    refine g_call rfl (Cl.of Tryz.func23 rfl rfl) rfl rfl (fun w' hE => within_sp _ _ w') rfl (fun _ _ => ?_)
    refine g_nil ?_
    refine hK _ _ ⟨[], List.Perm.of_eq rfl⟩ ?_
    (refine ga_p 9 (by repeat first | exact NoP.sp | apply NoP.then | apply NoP.block) rfl (pv_spec rfl) rfl (by kernel_rfl) (by kernel_rfl) (by kernel_rfl) ?_); (refine ga_p 10 (by repeat first | exact NoP.sp | apply NoP.then | apply NoP.block) rfl (pv_spec rfl) rfl (by kernel_rfl) (by kernel_rfl) (by kernel_rfl) ?_)
    refine ga_case (t := 124) rfl (fun h2 => ?_) (fun h2 => ?_)
    rotate_left
    · have h2 : inB x.n j.p.obs.length = false := h2
      (refine ga_n 11 (by repeat first | exact NoP.sp | apply NoP.then | apply NoP.block) rfl rfl rfl rfl rfl rfl (by kernel_rfl) (by kernel_rfl) (by kernel_rfl) ?_); (refine ga_n 12 (by repeat first | exact NoP.sp | apply NoP.then | apply NoP.block) rfl rfl rfl rfl rfl rfl (by kernel_rfl) (by kernel_rfl) (by kernel_rfl) ?_); (refine ga_n 13 (by repeat first | exact NoP.sp | apply NoP.then | apply NoP.block) rfl rfl rfl rfl rfl rfl (by kernel_rfl) (by kernel_rfl) (by kernel_rfl) ?_); (refine ga_n 14 (by repeat first | exact NoP.sp | apply NoP.then | apply NoP.block) rfl rfl rfl rfl rfl rfl (by kernel_rfl) (by kernel_rfl) (by kernel_rfl) ?_); (refine ga_n 15 (by repeat first | exact NoP.sp | apply NoP.then | apply NoP.block) rfl rfl rfl rfl rfl rfl (by kernel_rfl) (by kernel_rfl) (by kernel_rfl) ?_); (refine ga_n 16 (by repeat first | exact NoP.sp | apply NoP.then | apply NoP.block) rfl rfl rfl rfl rfl rfl (by kernel_rfl) (by kernel_rfl) (by kernel_rfl) ?_); (refine ga_n 17 (by repeat first | exact NoP.sp | apply NoP.then | apply NoP.block) rfl rfl rfl rfl rfl rfl (by kernel_rfl) (by kernel_rfl) (by kernel_rfl) ?_); (refine ga_n 18 (by repeat first | exact NoP.sp | apply NoP.then | apply NoP.block) rfl rfl rfl rfl rfl rfl (by kernel_rfl) (by kernel_rfl) (by kernel_rfl) ?_); (refine ga_n 19 (by repeat first | exact NoP.sp | apply NoP.then | apply NoP.block) rfl rfl rfl rfl rfl rfl (by kernel_rfl) (by kernel_rfl) (by kernel_rfl) ?_); (refine ga_n 20 (by repeat first | exact NoP.sp | apply NoP.then | apply NoP.block) rfl rfl rfl rfl rfl rfl (by kernel_rfl) (by kernel_rfl) (by kernel_rfl) ?_); (refine ga_n 21 (by repeat first | exact NoP.sp | apply NoP.then | apply NoP.block) rfl rfl rfl rfl rfl rfl (by kernel_rfl) (by kernel_rfl) (by kernel_rfl) ?_); (refine ga_n 22 (by repeat first | exact NoP.sp | apply NoP.then | apply NoP.block) rfl rfl rfl rfl rfl rfl (by kernel_rfl) (by kernel_rfl) (by kernel_rfl) ?_); (refine ga_p 23 (by repeat first | exact NoP.sp | apply NoP.then | apply NoP.block) rfl (pv_spec rfl) rfl (by kernel_rfl) (by kernel_rfl) (by kernel_rfl) ?_); (refine ga_p 24 (by repeat first | exact NoP.sp | apply NoP.then | apply NoP.block) rfl (pv_spec rfl) rfl (by kernel_rfl) (by kernel_rfl) (by kernel_rfl) ?_)
      refine ga_nil (by kernel_rfl) ?_
      repeat' (refine gq_block ?_)
      refine gq_at true trivial ⟨rfl, rfl, rfl, congrArg (fun b => some (Value.bool b)) ?_, congrArg (fun n => some (Value.int .i64 n)) ?_, trivial⟩ (fun w' H => ?_)
      · simp [okI, hop, h1, h2]
      · simp [argsN, hop]
      · rw [shape4 hop]; exact H
    have h2 : inB x.n j.p.obs.length = true := h2
    have hb2 : 0 ≤ x.n ∧ x.n < j.p.obs.length := by simpa [inB] using h2
    have hlx : j.p.obs[x.n.toNat]? = some (j.p.obs[x.n.toNat]'(by omega)) := List.getElem?_eq_getElem (by omega)
    generalize j.p.obs[x.n.toNat]'(by omega) = q at hlx
    obtain ⟨bb, oo, hA, hc⟩ := hj.p.obs x.n.toNat _ hlx
    (refine ga_py 11 (by repeat first | exact NoP.sp | apply NoP.then | apply NoP.block) rfl rfl rfl rfl (pv_spec rfl) rfl (by kernel_rfl) (by kernel_rfl) (by kernel_rfl) ?_); (refine ga_ld 12 1 (by repeat first | exact NoP.sp | apply NoP.then | apply NoP.block) rfl (wanted_yes rfl rfl rfl) rfl rfl rfl rfl rfl rfl (by kernel_rfl) (by kernel_rfl) (by kernel_rfl) ?_); (refine ga_py 13 (by repeat first | exact NoP.sp | apply NoP.then | apply NoP.block) rfl rfl rfl rfl (pv_spec rfl) rfl (by kernel_rfl) (by kernel_rfl) (by kernel_rfl) ?_); (refine ga_py 14 (by repeat first | exact NoP.sp | apply NoP.then | apply NoP.block) rfl rfl rfl rfl (pv_spec rfl) rfl (by kernel_rfl) (by kernel_rfl) (by kernel_rfl) ?_); (refine ga_ld 15 2 (by repeat first | exact NoP.sp | apply NoP.then | apply NoP.block) rfl (wanted_yes rfl rfl rfl) rfl rfl rfl rfl rfl rfl (by kernel_rfl) (by kernel_rfl) (by kernel_rfl) ?_); (refine ga_py 16 (by repeat first | exact NoP.sp | apply NoP.then | apply NoP.block) rfl rfl rfl rfl (pv_spec rfl) rfl (by kernel_rfl) (by kernel_rfl) (by kernel_rfl) ?_); (refine ga_ld 17 1 (by repeat first | exact NoP.sp | apply NoP.then | apply NoP.block) rfl (wanted_yes rfl rfl rfl) rfl rfl rfl rfl rfl rfl (by kernel_rfl) (by kernel_rfl) (by kernel_rfl) ?_)
    refine ga_py 18 (by repeat first | exact NoP.sp | apply NoP.then | apply NoP.block) rfl rfl rfl rfl (p_ix (bx := bb) (o := oo) (by show some (Value.slice j.p.oA _ _) = _; rw [hA]) rfl rfl rfl hb2.1 hb2.2) rfl (by kernel_rfl) (by kernel_rfl) (by kernel_rfl) ?_
    (refine ga_py 19 (by repeat first | exact NoP.sp | apply NoP.then | apply NoP.block) rfl rfl rfl rfl (pv_spec rfl) rfl (by kernel_rfl) (by kernel_rfl) (by kernel_rfl) ?_)
    refine ga_ldO 20 (cs := [.int .i64 q.size]) (by repeat first | exact NoP.sp | apply NoP.then | apply NoP.block) rfl (wanted_yes rfl rfl rfl) rfl rfl rfl rfl (fun k u hk => ?_) rfl (by kernel_rfl) (by kernel_rfl) (by kernel_rfl) ?_
    · have hk0 : k = 0 := by have := (List.getElem?_eq_some_iff.1 hk).1; simp at this; omega
      subst hk0
      simp only [List.getElem?_cons_zero, Option.some.injEq] at hk; subst hk
      exact (old_le0 _ w).cell (hc 1 _ rfl)
    (refine ga_py 21 (by repeat first | exact NoP.sp | apply NoP.then | apply NoP.block) rfl rfl rfl rfl (pv_spec rfl) rfl (by kernel_rfl) (by kernel_rfl) (by kernel_rfl) ?_)
    refine ga_one (i := 22) (by kernel_rfl) (gs_of rfl (fun K hK => ?_))
    refine g_yes rfl rfl rfl ?_
    refine g_call rfl (Cl.of Tryz.func23 rfl rfl) rfl rfl (fun w' hE => within_sp _ _ w') rfl (fun _ _ => ?_)
    refine g_nil ?_
    refine hK _ _ ⟨[], List.Perm.of_eq rfl⟩ ?_
    (refine ga_p 23 (by repeat first | exact NoP.sp | apply NoP.then | apply NoP.block) rfl (pv_spec rfl) rfl (by kernel_rfl) (by kernel_rfl) (by kernel_rfl) ?_); (refine ga_p 24 (by repeat first | exact NoP.sp | apply NoP.then | apply NoP.block) rfl (pv_spec rfl) rfl (by kernel_rfl) (by kernel_rfl) (by kernel_rfl) ?_)
    refine ga_nil (by kernel_rfl) ?_
    repeat' (refine gq_block ?_)
    refine gq_at true trivial ⟨rfl, rfl, rfl, congrArg (fun b => some (Value.bool b)) ?_, congrArg (fun n => some (Value.int .i64 n)) ?_, trivial⟩ (fun w' H => ?_)
    · show inB x.off (IntKind.i64.wrap (q.size + 1)) = _; simp [okI, hop, h1, h2, hlx]
    · simp [argsN, hop]
    · rw [shape4 hop]; exact H
  repeat' (first | refine g_pv rfl rfl ?_ | refine g_nil ?_ | refine gq_then ?_ | refine gc_seq ?_ | refine gc_region ?_)
  refine gc_condC rfl (fun c5 => ?_) (fun c5 => ?_)
  · have hop : x.op = 5 := beq_iff_eq.1 c5
    repeat' (refine gc_seq ?_)
    refine gc_draw [[(b3, .cells ⟨x.cells⟩ 43 (0, 0))], [(b2, .cells ⟨j.cells⟩ 59 (0, 0))]] [_] rfl List.perm_append_comm ?_
    (refine ga_p 0 (by repeat first | exact NoP.sp | apply NoP.then | apply NoP.block) rfl (pv_spec rfl) rfl (by kernel_rfl) (by kernel_rfl) (by kernel_rfl) ?_); (refine ga_ld 1 0 (by repeat first | exact NoP.sp | apply NoP.then | apply NoP.block) rfl wanted_none rfl rfl rfl rfl rfl rfl (by kernel_rfl) (by kernel_rfl) (by kernel_rfl) ?_); (refine ga_p 2 (by repeat first | exact NoP.sp | apply NoP.then | apply NoP.block) rfl (pv_spec rfl) rfl (by kernel_rfl) (by kernel_rfl) (by kernel_rfl) ?_); (refine ga_ld 3 0 (by repeat first | exact NoP.sp | apply NoP.then | apply NoP.block) rfl wanted_none rfl rfl rfl rfl rfl rfl (by kernel_rfl) (by kernel_rfl) (by kernel_rfl) ?_); (refine ga_p 4 (by repeat first | exact NoP.sp | apply NoP.then | apply NoP.block) rfl (pv_spec rfl) rfl (by kernel_rfl) (by kernel_rfl) (by kernel_rfl) ?_); (refine ga_ld 5 0 (by repeat first | exact NoP.sp | apply NoP.then | apply NoP.block) rfl wanted_none rfl rfl rfl rfl rfl rfl (by kernel_rfl) (by kernel_rfl) (by kernel_rfl) ?_); (refine ga_p 6 (by repeat first | exact NoP.sp | apply NoP.then | apply NoP.block) rfl (pv_spec rfl) rfl (by kernel_rfl) (by kernel_rfl) (by kernel_rfl) ?_); (refine ga_ld 7 0 (by repeat first | exact NoP.sp | apply NoP.then | apply NoP.block) rfl wanted_none rfl rfl rfl rfl rfl rfl (by kernel_rfl) (by kernel_rfl) (by kernel_rfl) ?_); (refine ga_p 8 (by repeat first | exact NoP.sp | apply NoP.then | apply NoP.block) rfl (pv_spec rfl) rfl (by kernel_rfl) (by kernel_rfl) (by kernel_rfl) ?_); (refine ga_ld 9 0 (by repeat first | exact NoP.sp | apply NoP.then | apply NoP.block) rfl wanted_none rfl rfl rfl rfl rfl rfl (by kernel_rfl) (by kernel_rfl) (by kernel_rfl) ?_); (refine ga_p 10 (by repeat first | exact NoP.sp | apply NoP.then | apply NoP.block) rfl (pv_spec rfl) rfl (by kernel_rfl) (by kernel_rfl) (by kernel_rfl) ?_)
    refine ga_one (i := 11) (by kernel_rfl) (gs_of rfl (fun K hK => ?_))
    refine g_st 0 rfl rfl rfl rfl rfl rfl rfl ?_
    refine g_heap (R' := [[(b5, .cells ⟨[.int .i64 x.op, .int .i64 0, .int .i64 x.d, .int .i64 0, .int .u32 0, .int .i64 0, .int .u32 0, .int .i64 0, .int .i64 0, .int .i64 0, .bool false, .slice none 0 0]⟩ 43 (0, 0))], [(b3, .cells ⟨x.cells⟩ 43 (0, 0))], [(b2, .cells ⟨j.cells⟩ 59 (0, 0))]]) (fun w H => H) ?_
    refine g_nil ?_
    refine hK _ _ ⟨[_], List.perm_append_comm⟩ ?_
    (refine ga_p 12 (by repeat first | exact NoP.sp | apply NoP.then | apply NoP.block) rfl (pv_spec rfl) rfl (by kernel_rfl) (by kernel_rfl) (by kernel_rfl) ?_)
    refine ga_one (i := 13) (by kernel_rfl) (gs_of rfl (fun K hK => ?_))
    refine g_st 0 rfl rfl rfl rfl rfl rfl rfl ?_
    refine g_heap (R' := [[(b5, .cells ⟨[.int .i64 x.op, .int .i64 0, .int .i64 x.d, .int .i64 x.a.k, .int .u32 x.a.n, .int .i64 0, .int .u32 0, .int .i64 0, .int .i64 0, .int .i64 0, .bool false, .slice none 0 0]⟩ 43 (0, 0))], [(b3, .cells ⟨x.cells⟩ 43 (0, 0))], [(b2, .cells ⟨j.cells⟩ 59 (0, 0))]]) (fun w H => H) ?_
    refine g_nil ?_
    refine hK _ _ ⟨[_], List.perm_append_comm⟩ ?_
    (refine ga_p 14 (by repeat first | exact NoP.sp | apply NoP.then | apply NoP.block) rfl (pv_spec rfl) rfl (by kernel_rfl) (by kernel_rfl) (by kernel_rfl) ?_)
    refine ga_one (i := 15) (by kernel_rfl) (gs_of rfl (fun K hK => ?_))
    refine g_st 0 rfl rfl rfl rfl rfl rfl rfl ?_
    refine g_heap (R' := [[(b5, .cells ⟨[.int .i64 x.op, .int .i64 0, .int .i64 x.d, .int .i64 x.a.k, .int .u32 x.a.n, .int .i64 0, .int .u32 0, .int .i64 0, .int .i64 x.off, .int .i64 0, .bool false, .slice none 0 0]⟩ 43 (0, 0))], [(b3, .cells ⟨x.cells⟩ 43 (0, 0))], [(b2, .cells ⟨j.cells⟩ 59 (0, 0))]]) (fun w H => H) ?_
    refine g_nil ?_
    refine hK _ _ ⟨[_], List.perm_append_comm⟩ ?_
    (refine ga_p 16 (by repeat first | exact NoP.sp | apply NoP.then | apply NoP.block) rfl (pv_spec rfl) rfl (by kernel_rfl) (by kernel_rfl) (by kernel_rfl) ?_)
    refine ga_one (i := 17) (by kernel_rfl) (gs_of rfl (fun K hK => ?_))
    refine g_st 0 rfl rfl rfl rfl rfl rfl rfl ?_
    refine g_heap (R' := [[(b5, .cells ⟨[.int .i64 x.op, .int .i64 0, .int .i64 x.d, .int .i64 x.a.k, .int .u32 x.a.n, .int .i64 0, .int .u32 0, .int .i64 0, .int .i64 x.off, .int .i64 x.width, .bool false, .slice none 0 0]⟩ 43 (0, 0))], [(b3, .cells ⟨x.cells⟩ 43 (0, 0))], [(b2, .cells ⟨j.cells⟩ 59 (0, 0))]]) (fun w H => H) ?_
    refine g_nil ?_
    refine hK _ _ ⟨[_], List.perm_append_comm⟩ ?_
    (refine ga_p 18 (by repeat first | exact NoP.sp | apply NoP.then | apply NoP.block) rfl (pv_spec rfl) rfl (by kernel_rfl) (by kernel_rfl) (by kernel_rfl) ?_)
    refine ga_one (i := 19) (by kernel_rfl) (gs_of rfl (fun K hK => ?_))
    refine g_st 0 rfl rfl rfl rfl rfl rfl rfl ?_
    refine g_heap (R' := [[(b5, .cells ⟨[.int .i64 x.op, .int .i64 0, .int .i64 x.d, .int .i64 x.a.k, .int .u32 x.a.n, .int .i64 0, .int .u32 0, .int .i64 0, .int .i64 x.off, .int .i64 x.width, .bool x.signed, .slice none 0 0]⟩ 43 (0, 0))], [(b3, .cells ⟨x.cells⟩ 43 (0, 0))], [(b2, .cells ⟨j.cells⟩ 59 (0, 0))]]) (fun w H => H) ?_
    refine g_nil ?_
    refine hK _ _ ⟨[_], List.perm_append_comm⟩ ?_
    refine ga_nil (by kernel_rfl) ?_
    repeat' (first | refine g_pv rfl rfl ?_ | refine gq_then ?_ | refine gc_region ?_)
    refine g_case (t := 156) rfl (fun h8 => ?_) (fun h8 => ?_)
    rotate_left
    · have h8 : inB x.d j.f.te = false := h8
      repeat' (first | refine g_pv rfl rfl ?_ | refine g_nil ?_ | refine gq_block ?_ | refine g_no rfl rfl rfl rfl rfl ?_)
      refine gq_at true trivial ⟨rfl, rfl, rfl, congrArg (fun b => some (Value.bool b)) ?_, congrArg (fun n => some (Value.int .i64 n)) ?_, trivial⟩ (fun w' H => ?_)
      · simp [okI, hop, h8]
      · simp [argsN, hop]
      · rw [shape5 hop]; exact H
    have h8 : inB x.d j.f.te = true := h8
    repeat' (first | refine g_pv rfl rfl ?_ | refine g_ld 1 rfl rfl rfl rfl rfl rfl ?_ | refine g_ld 2 rfl rfl rfl rfl rfl rfl ?_ | refine g_yes rfl rfl rfl ?_)
    refine g_call rfl (Cl.of Tryz.func79 rfl rfl) rfl rfl (fun w' hE => arg_sp j x.a w' (hx.ok x.a (by simp)) hj.f.te) rfl ?_
    rintro q9 hq9
    have hq9 : argB j.f.te x.a = q9 := hq9.symm
    cases q9
    · -- no
      repeat' (first | refine g_pv rfl rfl ?_ | refine g_nil ?_ | refine gq_block ?_ | refine g_no rfl rfl rfl rfl rfl ?_)
      refine gq_at true trivial ⟨rfl, rfl, rfl, congrArg (fun b => some (Value.bool b)) ?_, congrArg (fun n => some (Value.int .i64 n)) ?_, trivial⟩ (fun w' H => ?_)
      · simp [okI, hop, h8, hq9]
      · simp [argsN, hop]
      · rw [shape5 hop]; exact H
    · -- yes
      repeat' (first | refine g_pv rfl rfl ?_ | refine g_ld 1 rfl rfl rfl rfl rfl rfl ?_ | refine g_yes rfl rfl rfl ?_)
      refine g_call rfl (Cl.of Tryz.func80 rfl rfl) rfl rfl (fun w' hE => offset_sp x w') rfl ?_
      rintro q10 hq10
      have hq10 : offB x = q10 := hq10.symm
      cases q10
      · -- no
        repeat' (first | refine g_pv rfl rfl ?_ | refine g_nil ?_ | refine gq_block ?_ | refine g_no rfl rfl rfl rfl rfl ?_)
        refine gq_at true trivial ⟨rfl, rfl, rfl, congrArg (fun b => some (Value.bool b)) ?_, congrArg (fun n => some (Value.int .i64 n)) ?_, trivial⟩ (fun w' H => ?_)
        · simp [okI, hop, h8, hq9, hq10]
        · simp [argsN, hop]
        · rw [shape5 hop]; exact H
      · -- yes
        repeat' (first | refine g_pv rfl rfl ?_ | refine g_ld 1 rfl rfl rfl rfl rfl rfl ?_ | refine g_yes rfl rfl rfl ?_)
        refine g_case (t := 170) rfl (fun h7 => ?_) (fun h7 => ?_)
        · -- below
          have h7 : decide (x.width < 4) = true := h7
          repeat' (first | refine g_pv rfl rfl ?_ | refine g_nil ?_ | refine gq_block ?_ | refine g_yes rfl rfl rfl ?_ | refine g_no rfl rfl rfl rfl rfl ?_)
          refine gq_at true trivial ⟨rfl, rfl, rfl, congrArg (fun b => some (Value.bool b)) ?_, congrArg (fun n => some (Value.int .i64 n)) ?_, trivial⟩ (fun w' H => ?_)
          · simp [okI, hop, h8, hq9, hq10, h7]
          · simp [argsN, hop]
          · rw [shape5 hop]; exact H
        · -- not
          have h7 : decide (x.width < 4) = false := h7
          repeat' (first | refine g_pv rfl rfl ?_ | refine g_ld 1 rfl rfl rfl rfl rfl rfl ?_ | refine g_nil ?_ | refine gq_block ?_ | refine g_yes rfl rfl rfl ?_)
          refine gq_at true trivial ⟨rfl, rfl, rfl, congrArg (fun b => some (Value.bool b)) ?_, congrArg (fun n => some (Value.int .i64 n)) ?_, trivial⟩ (fun w' H => ?_)
          · simp [okI, hop, h8, hq9, hq10, h7]
          · simp [argsN, hop]
          · rw [shape5 hop]; exact H
  repeat' (first | refine g_pv rfl rfl ?_ | refine g_nil ?_ | refine gq_then ?_ | refine gc_seq ?_ | refine gc_region ?_)
  refine gc_condC rfl (fun c6 => ?_) (fun c6 => ?_)
  · have hop : x.op = 6 := beq_iff_eq.1 c6
    repeat' (refine gc_seq ?_)
    refine gc_draw [[(b3, .cells ⟨x.cells⟩ 43 (0, 0))], [(b2, .cells ⟨j.cells⟩ 59 (0, 0))]] [_] rfl List.perm_append_comm ?_
    (refine ga_p 0 (by repeat first | exact NoP.sp | apply NoP.then | apply NoP.block) rfl (pv_spec rfl) rfl (by kernel_rfl) (by kernel_rfl) (by kernel_rfl) ?_); (refine ga_ld 1 0 (by repeat first | exact NoP.sp | apply NoP.then | apply NoP.block) rfl wanted_none rfl rfl rfl rfl rfl rfl (by kernel_rfl) (by kernel_rfl) (by kernel_rfl) ?_); (refine ga_p 2 (by repeat first | exact NoP.sp | apply NoP.then | apply NoP.block) rfl (pv_spec rfl) rfl (by kernel_rfl) (by kernel_rfl) (by kernel_rfl) ?_); (refine ga_ld 3 0 (by repeat first | exact NoP.sp | apply NoP.then | apply NoP.block) rfl wanted_none rfl rfl rfl rfl rfl rfl (by kernel_rfl) (by kernel_rfl) (by kernel_rfl) ?_); (refine ga_p 4 (by repeat first | exact NoP.sp | apply NoP.then | apply NoP.block) rfl (pv_spec rfl) rfl (by kernel_rfl) (by kernel_rfl) (by kernel_rfl) ?_); (refine ga_ld 5 0 (by repeat first | exact NoP.sp | apply NoP.then | apply NoP.block) rfl wanted_none rfl rfl rfl rfl rfl rfl (by kernel_rfl) (by kernel_rfl) (by kernel_rfl) ?_); (refine ga_p 6 (by repeat first | exact NoP.sp | apply NoP.then | apply NoP.block) rfl (pv_spec rfl) rfl (by kernel_rfl) (by kernel_rfl) (by kernel_rfl) ?_); (refine ga_ld 7 0 (by repeat first | exact NoP.sp | apply NoP.then | apply NoP.block) rfl wanted_none rfl rfl rfl rfl rfl rfl (by kernel_rfl) (by kernel_rfl) (by kernel_rfl) ?_); (refine ga_p 8 (by repeat first | exact NoP.sp | apply NoP.then | apply NoP.block) rfl (pv_spec rfl) rfl (by kernel_rfl) (by kernel_rfl) (by kernel_rfl) ?_)
    refine ga_one (i := 9) (by kernel_rfl) (gs_of rfl (fun K hK => ?_))
    refine g_st 0 rfl rfl rfl rfl rfl rfl rfl ?_
    refine g_heap (R' := [[(b5, .cells ⟨[.int .i64 x.op, .int .i64 0, .int .i64 (-1), .int .i64 x.a.k, .int .u32 x.a.n, .int .i64 0, .int .u32 0, .int .i64 0, .int .i64 0, .int .i64 0, .bool false, .slice none 0 0]⟩ 43 (0, 0))], [(b3, .cells ⟨x.cells⟩ 43 (0, 0))], [(b2, .cells ⟨j.cells⟩ 59 (0, 0))]]) (fun w H => H) ?_
    refine g_nil ?_
    refine hK _ _ ⟨[_], List.perm_append_comm⟩ ?_
    (refine ga_p 10 (by repeat first | exact NoP.sp | apply NoP.then | apply NoP.block) rfl (pv_spec rfl) rfl (by kernel_rfl) (by kernel_rfl) (by kernel_rfl) ?_)
    refine ga_one (i := 11) (by kernel_rfl) (gs_of rfl (fun K hK => ?_))
    refine g_st 0 rfl rfl rfl rfl rfl rfl rfl ?_
    refine g_heap (R' := [[(b5, .cells ⟨[.int .i64 x.op, .int .i64 0, .int .i64 (-1), .int .i64 x.a.k, .int .u32 x.a.n, .int .i64 x.b.k, .int .u32 x.b.n, .int .i64 0, .int .i64 0, .int .i64 0, .bool false, .slice none 0 0]⟩ 43 (0, 0))], [(b3, .cells ⟨x.cells⟩ 43 (0, 0))], [(b2, .cells ⟨j.cells⟩ 59 (0, 0))]]) (fun w H => H) ?_
    refine g_nil ?_
    refine hK _ _ ⟨[_], List.perm_append_comm⟩ ?_
    (refine ga_p 12 (by repeat first | exact NoP.sp | apply NoP.then | apply NoP.block) rfl (pv_spec rfl) rfl (by kernel_rfl) (by kernel_rfl) (by kernel_rfl) ?_)
    refine ga_one (i := 13) (by kernel_rfl) (gs_of rfl (fun K hK => ?_))
    refine g_st 0 rfl rfl rfl rfl rfl rfl rfl ?_
    refine g_heap (R' := [[(b5, .cells ⟨[.int .i64 x.op, .int .i64 0, .int .i64 (-1), .int .i64 x.a.k, .int .u32 x.a.n, .int .i64 x.b.k, .int .u32 x.b.n, .int .i64 0, .int .i64 x.off, .int .i64 0, .bool false, .slice none 0 0]⟩ 43 (0, 0))], [(b3, .cells ⟨x.cells⟩ 43 (0, 0))], [(b2, .cells ⟨j.cells⟩ 59 (0, 0))]]) (fun w H => H) ?_
    refine g_nil ?_
    refine hK _ _ ⟨[_], List.perm_append_comm⟩ ?_
    (refine ga_p 14 (by repeat first | exact NoP.sp | apply NoP.then | apply NoP.block) rfl (pv_spec rfl) rfl (by kernel_rfl) (by kernel_rfl) (by kernel_rfl) ?_)
    refine ga_one (i := 15) (by kernel_rfl) (gs_of rfl (fun K hK => ?_))
    refine g_st 0 rfl rfl rfl rfl rfl rfl rfl ?_
    refine g_heap (R' := [[(b5, .cells ⟨[.int .i64 x.op, .int .i64 0, .int .i64 (-1), .int .i64 x.a.k, .int .u32 x.a.n, .int .i64 x.b.k, .int .u32 x.b.n, .int .i64 0, .int .i64 x.off, .int .i64 x.width, .bool false, .slice none 0 0]⟩ 43 (0, 0))], [(b3, .cells ⟨x.cells⟩ 43 (0, 0))], [(b2, .cells ⟨j.cells⟩ 59 (0, 0))]]) (fun w H => H) ?_
    refine g_nil ?_
    refine hK _ _ ⟨[_], List.perm_append_comm⟩ ?_
    refine ga_nil (by kernel_rfl) ?_
    repeat' (first | refine g_pv rfl rfl ?_ | refine g_ld 1 rfl rfl rfl rfl rfl rfl ?_ | refine g_ld 2 rfl rfl rfl rfl rfl rfl ?_ | refine gq_then ?_ | refine gc_region ?_)
    refine g_call rfl (Cl.of Tryz.func79 rfl rfl) rfl rfl (fun w' hE => arg_sp j x.a w' (hx.ok x.a (by simp)) hj.f.te) rfl ?_
    rintro q11 hq11
    have hq11 : argB j.f.te x.a = q11 := hq11.symm
    cases q11
    · -- no
      repeat' (first | refine g_pv rfl rfl ?_ | refine g_nil ?_ | refine gq_block ?_ | refine g_no rfl rfl rfl rfl rfl ?_)
      refine gq_at true trivial ⟨rfl, rfl, rfl, congrArg (fun b => some (Value.bool b)) ?_, congrArg (fun n => some (Value.int .i64 n)) ?_, trivial⟩ (fun w' H => ?_)
      · simp [okI, hop, hq11]
      · simp [argsN, hop]
      · rw [shape6 hop]; exact H
    · -- yes
      repeat' (first | refine g_pv rfl rfl ?_ | refine g_ld 1 rfl rfl rfl rfl rfl rfl ?_ | refine g_ld 2 rfl rfl rfl rfl rfl rfl ?_ | refine g_yes rfl rfl rfl ?_)
      refine g_call rfl (Cl.of Tryz.func79 rfl rfl) rfl rfl (fun w' hE => arg_sp j x.b w' (hx.ok x.b (by simp)) hj.f.te) rfl ?_
      rintro q12 hq12
      have hq12 : argB j.f.te x.b = q12 := hq12.symm
      cases q12
      · -- no
        repeat' (first | refine g_pv rfl rfl ?_ | refine g_nil ?_ | refine gq_block ?_ | refine g_no rfl rfl rfl rfl rfl ?_)
        refine gq_at true trivial ⟨rfl, rfl, rfl, congrArg (fun b => some (Value.bool b)) ?_, congrArg (fun n => some (Value.int .i64 n)) ?_, trivial⟩ (fun w' H => ?_)
        · simp [okI, hop, hq11, hq12]
        · simp [argsN, hop]
        · rw [shape6 hop]; exact H
      · -- yes
        repeat' (first | refine g_pv rfl rfl ?_ | refine g_ld 1 rfl rfl rfl rfl rfl rfl ?_ | refine g_yes rfl rfl rfl ?_)
        refine g_call rfl (Cl.of Tryz.func80 rfl rfl) rfl rfl (fun w' hE => offset_sp x w') rfl ?_
        rintro q13 hq13
        have hq13 : offB x = q13 := hq13.symm
        cases q13
        · -- no
          repeat' (first | refine g_pv rfl rfl ?_ | refine g_nil ?_ | refine gq_block ?_)
          refine gq_at true trivial ⟨rfl, rfl, rfl, congrArg (fun b => some (Value.bool b)) ?_, congrArg (fun n => some (Value.int .i64 n)) ?_, trivial⟩ (fun w' H => ?_)
          · simp [okI, hop, hq11, hq12, hq13]
          · simp [argsN, hop]
          · rw [shape6 hop]; exact H
        · -- yes
          repeat' (first | refine g_pv rfl rfl ?_ | refine g_nil ?_ | refine gq_block ?_)
          repeat' (fail)
          refine gq_at true trivial ⟨rfl, rfl, rfl, congrArg (fun b => some (Value.bool b)) ?_, congrArg (fun n => some (Value.int .i64 n)) ?_, trivial⟩ (fun w' H => ?_)
          · simp [okI, hop, hq11, hq12, hq13]
          · simp [argsN, hop]
          · rw [shape6 hop]; exact H
  repeat' (first | refine g_pv rfl rfl ?_ | refine g_nil ?_ | refine gq_then ?_ | refine gc_seq ?_ | refine gc_region ?_)
  refine gc_condC rfl (fun c7 => ?_) (fun c7 => ?_)
  · have hop : x.op = 7 := beq_iff_eq.1 c7
    repeat' (refine gc_seq ?_)
    refine gc_draw [[(b3, .cells ⟨x.cells⟩ 43 (0, 0))], [(b2, .cells ⟨j.cells⟩ 59 (0, 0))]] [_] rfl List.perm_append_comm ?_
    (refine ga_p 0 (by repeat first | exact NoP.sp | apply NoP.then | apply NoP.block) rfl (pv_spec rfl) rfl (by kernel_rfl) (by kernel_rfl) (by kernel_rfl) ?_); (refine ga_ld 1 0 (by repeat first | exact NoP.sp | apply NoP.then | apply NoP.block) rfl wanted_none rfl rfl rfl rfl rfl rfl (by kernel_rfl) (by kernel_rfl) (by kernel_rfl) ?_); (refine ga_p 2 (by repeat first | exact NoP.sp | apply NoP.then | apply NoP.block) rfl (pv_spec rfl) rfl (by kernel_rfl) (by kernel_rfl) (by kernel_rfl) ?_); (refine ga_ld 3 0 (by repeat first | exact NoP.sp | apply NoP.then | apply NoP.block) rfl wanted_none rfl rfl rfl rfl rfl rfl (by kernel_rfl) (by kernel_rfl) (by kernel_rfl) ?_); (refine ga_p 4 (by repeat first | exact NoP.sp | apply NoP.then | apply NoP.block) rfl (pv_spec rfl) rfl (by kernel_rfl) (by kernel_rfl) (by kernel_rfl) ?_); (refine ga_ld 5 0 (by repeat first | exact NoP.sp | apply NoP.then | apply NoP.block) rfl wanted_none rfl rfl rfl rfl rfl rfl (by kernel_rfl) (by kernel_rfl) (by kernel_rfl) ?_); (refine ga_p 6 (by repeat first | exact NoP.sp | apply NoP.then | apply NoP.block) rfl (pv_spec rfl) rfl (by kernel_rfl) (by kernel_rfl) (by kernel_rfl) ?_); (refine ga_ld 7 0 (by repeat first | exact NoP.sp | apply NoP.then | apply NoP.block) rfl wanted_none rfl rfl rfl rfl rfl rfl (by kernel_rfl) (by kernel_rfl) (by kernel_rfl) ?_); (refine ga_p 8 (by repeat first | exact NoP.sp | apply NoP.then | apply NoP.block) rfl (pv_spec rfl) rfl (by kernel_rfl) (by kernel_rfl) (by kernel_rfl) ?_)
    refine ga_one (i := 9) (by kernel_rfl) (gs_of rfl (fun K hK => ?_))
    refine g_st 0 rfl rfl rfl rfl rfl rfl rfl ?_
    refine g_heap (R' := [[(b5, .cells ⟨[.int .i64 x.op, .int .i64 0, .int .i64 (-1), .int .i64 x.a.k, .int .u32 x.a.n, .int .i64 0, .int .u32 0, .int .i64 0, .int .i64 0, .int .i64 0, .bool false, .slice none 0 0]⟩ 43 (0, 0))], [(b3, .cells ⟨x.cells⟩ 43 (0, 0))], [(b2, .cells ⟨j.cells⟩ 59 (0, 0))]]) (fun w H => H) ?_
    refine g_nil ?_
    refine hK _ _ ⟨[_], List.perm_append_comm⟩ ?_
    (refine ga_p 10 (by repeat first | exact NoP.sp | apply NoP.then | apply NoP.block) rfl (pv_spec rfl) rfl (by kernel_rfl) (by kernel_rfl) (by kernel_rfl) ?_)
    refine ga_one (i := 11) (by kernel_rfl) (gs_of rfl (fun K hK => ?_))
    refine g_st 0 rfl rfl rfl rfl rfl rfl rfl ?_
    refine g_heap (R' := [[(b5, .cells ⟨[.int .i64 x.op, .int .i64 0, .int .i64 (-1), .int .i64 x.a.k, .int .u32 x.a.n, .int .i64 x.b.k, .int .u32 x.b.n, .int .i64 0, .int .i64 0, .int .i64 0, .bool false, .slice none 0 0]⟩ 43 (0, 0))], [(b3, .cells ⟨x.cells⟩ 43 (0, 0))], [(b2, .cells ⟨j.cells⟩ 59 (0, 0))]]) (fun w H => H) ?_
    refine g_nil ?_
    refine hK _ _ ⟨[_], List.perm_append_comm⟩ ?_
    (refine ga_p 12 (by repeat first | exact NoP.sp | apply NoP.then | apply NoP.block) rfl (pv_spec rfl) rfl (by kernel_rfl) (by kernel_rfl) (by kernel_rfl) ?_)
    refine ga_one (i := 13) (by kernel_rfl) (gs_of rfl (fun K hK => ?_))
    refine g_st 0 rfl rfl rfl rfl rfl rfl rfl ?_
    refine g_heap (R' := [[(b5, .cells ⟨[.int .i64 x.op, .int .i64 0, .int .i64 (-1), .int .i64 x.a.k, .int .u32 x.a.n, .int .i64 x.b.k, .int .u32 x.b.n, .int .i64 0, .int .i64 x.off, .int .i64 0, .bool false, .slice none 0 0]⟩ 43 (0, 0))], [(b3, .cells ⟨x.cells⟩ 43 (0, 0))], [(b2, .cells ⟨j.cells⟩ 59 (0, 0))]]) (fun w H => H) ?_
    refine g_nil ?_
    refine hK _ _ ⟨[_], List.perm_append_comm⟩ ?_
    (refine ga_p 14 (by repeat first | exact NoP.sp | apply NoP.then | apply NoP.block) rfl (pv_spec rfl) rfl (by kernel_rfl) (by kernel_rfl) (by kernel_rfl) ?_)
    refine ga_one (i := 15) (by kernel_rfl) (gs_of rfl (fun K hK => ?_))
    refine g_st 0 rfl rfl rfl rfl rfl rfl rfl ?_
    refine g_heap (R' := [[(b5, .cells ⟨[.int .i64 x.op, .int .i64 0, .int .i64 (-1), .int .i64 x.a.k, .int .u32 x.a.n, .int .i64 x.b.k, .int .u32 x.b.n, .int .i64 0, .int .i64 x.off, .int .i64 x.width, .bool false, .slice none 0 0]⟩ 43 (0, 0))], [(b3, .cells ⟨x.cells⟩ 43 (0, 0))], [(b2, .cells ⟨j.cells⟩ 59 (0, 0))]]) (fun w H => H) ?_
    refine g_nil ?_
    refine hK _ _ ⟨[_], List.perm_append_comm⟩ ?_
    refine ga_nil (by kernel_rfl) ?_
    repeat' (first | refine g_pv rfl rfl ?_ | refine g_ld 1 rfl rfl rfl rfl rfl rfl ?_ | refine g_ld 2 rfl rfl rfl rfl rfl rfl ?_ | refine gq_then ?_ | refine gc_region ?_)
    refine g_call rfl (Cl.of Tryz.func79 rfl rfl) rfl rfl (fun w' hE => arg_sp j x.a w' (hx.ok x.a (by simp)) hj.f.te) rfl ?_
    rintro q14 hq14
    have hq14 : argB j.f.te x.a = q14 := hq14.symm
    cases q14
    · -- no
      repeat' (first | refine g_pv rfl rfl ?_ | refine g_nil ?_ | refine gq_block ?_ | refine g_no rfl rfl rfl rfl rfl ?_)
      refine gq_at true trivial ⟨rfl, rfl, rfl, congrArg (fun b => some (Value.bool b)) ?_, congrArg (fun n => some (Value.int .i64 n)) ?_, trivial⟩ (fun w' H => ?_)
      · simp [okI, hop, hq14]
      · simp [argsN, hop]
      · rw [shape7 hop]; exact H
    · -- yes
      repeat' (first | refine g_pv rfl rfl ?_ | refine g_ld 1 rfl rfl rfl rfl rfl rfl ?_ | refine g_ld 2 rfl rfl rfl rfl rfl rfl ?_ | refine g_yes rfl rfl rfl ?_)
      refine g_call rfl (Cl.of Tryz.func79 rfl rfl) rfl rfl (fun w' hE => arg_sp j x.b w' (hx.ok x.b (by simp)) hj.f.te) rfl ?_
      rintro q15 hq15
      have hq15 : argB j.f.te x.b = q15 := hq15.symm
      cases q15
      · -- no
        repeat' (first | refine g_pv rfl rfl ?_ | refine g_nil ?_ | refine gq_block ?_ | refine g_no rfl rfl rfl rfl rfl ?_)
        refine gq_at true trivial ⟨rfl, rfl, rfl, congrArg (fun b => some (Value.bool b)) ?_, congrArg (fun n => some (Value.int .i64 n)) ?_, trivial⟩ (fun w' H => ?_)
        · simp [okI, hop, hq14, hq15]
        · simp [argsN, hop]
        · rw [shape7 hop]; exact H
      · -- yes
        repeat' (first | refine g_pv rfl rfl ?_ | refine g_ld 1 rfl rfl rfl rfl rfl rfl ?_ | refine g_yes rfl rfl rfl ?_)
        refine g_call rfl (Cl.of Tryz.func44 rfl rfl) rfl rfl (fun w' hE => power_sp x.width w') rfl ?_
        rintro q16 hq16
        have hq16 : powB x.width = q16 := hq16.symm
        cases q16
        · -- no
          repeat' (first | refine g_pv rfl rfl ?_ | refine g_nil ?_ | refine gq_block ?_ | refine g_no rfl rfl rfl rfl rfl ?_)
          refine gq_at true trivial ⟨rfl, rfl, rfl, congrArg (fun b => some (Value.bool b)) ?_, congrArg (fun n => some (Value.int .i64 n)) ?_, trivial⟩ (fun w' H => ?_)
          · simp [okI, hop, hq14, hq15, hq16]
          · simp [argsN, hop]
          · rw [shape7 hop]; exact H
        · -- yes
          repeat' (first | refine g_pv rfl rfl ?_ | refine g_ld 1 rfl rfl rfl rfl rfl rfl ?_ | refine g_yes rfl rfl rfl ?_)
          refine g_case (t := 238) rfl (fun h17 => ?_) (fun h17 => ?_)
          rotate_left
          · have h17 : decide (x.off ≥ 1) = false := h17
            repeat' (first | refine g_pv rfl rfl ?_ | refine g_nil ?_ | refine gq_block ?_ | refine g_no rfl rfl rfl rfl rfl ?_)
            refine gq_at true trivial ⟨rfl, rfl, rfl, congrArg (fun b => some (Value.bool b)) ?_, congrArg (fun n => some (Value.int .i64 n)) ?_, trivial⟩ (fun w' H => ?_)
            · simp [okI, hop, hq14, hq15, hq16, h17]
            · simp [argsN, hop]
            · rw [shape7 hop]; exact H
          have h17 : decide (x.off ≥ 1) = true := h17
          repeat' (first | refine g_pv rfl rfl ?_ | refine g_ld 1 rfl rfl rfl rfl rfl rfl ?_ | refine g_yes rfl rfl rfl ?_)
          refine g_case (t := 243) rfl (fun h18 => ?_) (fun h18 => ?_)
          rotate_left
          · have h18 : decide (x.off ≤ 16384) = false := h18
            repeat' (first | refine g_pv rfl rfl ?_ | refine g_nil ?_ | refine gq_block ?_ | refine g_no rfl rfl rfl rfl rfl ?_)
            refine gq_at true trivial ⟨rfl, rfl, rfl, congrArg (fun b => some (Value.bool b)) ?_, congrArg (fun n => some (Value.int .i64 n)) ?_, trivial⟩ (fun w' H => ?_)
            · simp [okI, hop, hq14, hq15, hq16, h17, h18]
            · simp [argsN, hop]
            · rw [shape7 hop]; exact H
          have h18 : decide (x.off ≤ 16384) = true := h18
          repeat' (first | refine g_pv rfl rfl ?_ | refine g_ld 1 rfl rfl rfl rfl rfl rfl ?_ | refine g_yes rfl rfl rfl ?_)
          have hne : x.width ≠ 0 := by
            intro h0; rw [h0] at hq16; exact absurd hq16 (by decide)
          refine g_p (p_rem rfl rfl hne) rfl ?_
          repeat' (first | refine g_pv rfl rfl ?_ | refine g_nil ?_ | refine gq_block ?_ | refine g_yes rfl rfl rfl ?_)
          refine gq_at true trivial ⟨rfl, rfl, rfl, congrArg (fun b => some (Value.bool b)) ?_, congrArg (fun n => some (Value.int .i64 n)) ?_, trivial⟩ (fun w' H => ?_)
          · simp [okI, hop, hq14, hq15, hq16, h17, h18]
          · simp [argsN, hop]
          · rw [shape7 hop]; exact H
  repeat' (first | refine g_pv rfl rfl ?_ | refine g_nil ?_ | refine gq_then ?_ | refine gc_seq ?_ | refine gc_region ?_)
  refine gc_condC rfl (fun c8 => ?_) (fun c8 => ?_)
  · have hop : x.op = 8 := beq_iff_eq.1 c8
    repeat' (refine gc_seq ?_)
    refine gc_draw [[(b3, .cells ⟨x.cells⟩ 43 (0, 0))], [(b2, .cells ⟨j.cells⟩ 59 (0, 0))]] [_] rfl List.perm_append_comm ?_
    (refine ga_p 0 (by repeat first | exact NoP.sp | apply NoP.then | apply NoP.block) rfl (pv_spec rfl) rfl (by kernel_rfl) (by kernel_rfl) (by kernel_rfl) ?_); (refine ga_ld 1 0 (by repeat first | exact NoP.sp | apply NoP.then | apply NoP.block) rfl wanted_none rfl rfl rfl rfl rfl rfl (by kernel_rfl) (by kernel_rfl) (by kernel_rfl) ?_); (refine ga_p 2 (by repeat first | exact NoP.sp | apply NoP.then | apply NoP.block) rfl (pv_spec rfl) rfl (by kernel_rfl) (by kernel_rfl) (by kernel_rfl) ?_); (refine ga_ld 3 0 (by repeat first | exact NoP.sp | apply NoP.then | apply NoP.block) rfl wanted_none rfl rfl rfl rfl rfl rfl (by kernel_rfl) (by kernel_rfl) (by kernel_rfl) ?_); (refine ga_p 4 (by repeat first | exact NoP.sp | apply NoP.then | apply NoP.block) rfl (pv_spec rfl) rfl (by kernel_rfl) (by kernel_rfl) (by kernel_rfl) ?_)
    refine ga_one (i := 5) (by kernel_rfl) (gs_of rfl (fun K hK => ?_))
    refine g_st 0 rfl rfl rfl rfl rfl rfl rfl ?_
    refine g_heap (R' := [[(b5, .cells ⟨[.int .i64 x.op, .int .i64 0, .int .i64 x.d, .int .i64 0, .int .u32 0, .int .i64 0, .int .u32 0, .int .i64 0, .int .i64 0, .int .i64 0, .bool false, .slice none 0 0]⟩ 43 (0, 0))], [(b3, .cells ⟨x.cells⟩ 43 (0, 0))], [(b2, .cells ⟨j.cells⟩ 59 (0, 0))]]) (fun w H => H) ?_
    refine g_nil ?_
    refine hK _ _ ⟨[_], List.perm_append_comm⟩ ?_
    (refine ga_p 6 (by repeat first | exact NoP.sp | apply NoP.then | apply NoP.block) rfl (pv_spec rfl) rfl (by kernel_rfl) (by kernel_rfl) (by kernel_rfl) ?_)
    refine ga_one (i := 7) (by kernel_rfl) (gs_of rfl (fun K hK => ?_))
    refine g_st 0 rfl rfl rfl rfl rfl rfl rfl ?_
    refine g_heap (R' := [[(b5, .cells ⟨[.int .i64 x.op, .int .i64 0, .int .i64 x.d, .int .i64 0, .int .u32 0, .int .i64 0, .int .u32 0, .int .i64 x.n, .int .i64 0, .int .i64 0, .bool false, .slice none 0 0]⟩ 43 (0, 0))], [(b3, .cells ⟨x.cells⟩ 43 (0, 0))], [(b2, .cells ⟨j.cells⟩ 59 (0, 0))]]) (fun w H => H) ?_
    refine g_nil ?_
    refine hK _ _ ⟨[_], List.perm_append_comm⟩ ?_
    refine ga_nil (by kernel_rfl) ?_
    repeat' (first | refine gq_then ?_ | refine gc_seq ?_)
    refine gc_draw [[(b5, .cells ⟨Ins.cells { op := x.op, bin := 0, d := x.d, a := ⟨0, 0⟩, b := ⟨0, 0⟩, n := x.n, off := 0, width := 0, signed := false, args := [], aA := none, aC := 0 }⟩ 43 (0, 0))], [(b3, .cells ⟨x.cells⟩ 43 (0, 0))], [(b2, .cells ⟨j.cells⟩ 59 (0, 0))]] [] rfl (List.Perm.of_eq rfl) ?_
    (refine ga_p 0 (by repeat first | exact NoP.sp | apply NoP.then | apply NoP.block) rfl (pv_spec rfl) rfl (by kernel_rfl) (by kernel_rfl) (by kernel_rfl) ?_); (refine ga_ld 1 1 (by repeat first | exact NoP.sp | apply NoP.then | apply NoP.block) rfl wanted_none rfl rfl rfl rfl rfl rfl (by kernel_rfl) (by kernel_rfl) (by kernel_rfl) ?_); (refine ga_p 2 (by repeat first | exact NoP.sp | apply NoP.then | apply NoP.block) rfl (pv_spec rfl) rfl (by kernel_rfl) (by kernel_rfl) (by kernel_rfl) ?_); (refine ga_p 3 (by repeat first | exact NoP.sp | apply NoP.then | apply NoP.block) rfl (pv_spec rfl) rfl (by kernel_rfl) (by kernel_rfl) (by kernel_rfl) ?_); (refine ga_ld 4 2 (by repeat first | exact NoP.sp | apply NoP.then | apply NoP.block) rfl wanted_none rfl rfl rfl rfl rfl rfl (by kernel_rfl) (by kernel_rfl) (by kernel_rfl) ?_); (refine ga_p 5 (by repeat first | exact NoP.sp | apply NoP.then | apply NoP.block) rfl (pv_spec rfl) rfl (by kernel_rfl) (by kernel_rfl) (by kernel_rfl) ?_)
    refine ga_one (i := 6) (by kernel_rfl) (gs_of rfl (fun K hK => ?_))
    refine g_call rfl (Cl.of Tryz.func23 rfl rfl) rfl rfl (fun w' hE => within_sp _ _ w') rfl (fun _ _ => ?_)
    refine g_nil ?_
    refine hK _ _ ⟨[], List.Perm.of_eq rfl⟩ ?_
    (refine ga_p 7 (by repeat first | exact NoP.sp | apply NoP.then | apply NoP.block) rfl (pv_spec rfl) rfl (by kernel_rfl) (by kernel_rfl) (by kernel_rfl) ?_)
    refine ga_case (t := 266) rfl (fun h2 => ?_) (fun h2 => ?_)
    rotate_left
    · have h2 : inB x.n j.p.fns.length = false := h2
      (refine ga_n 8 (by repeat first | exact NoP.sp | apply NoP.then | apply NoP.block) rfl rfl rfl rfl rfl rfl (by kernel_rfl) (by kernel_rfl) (by kernel_rfl) ?_); (refine ga_n 9 (by repeat first | exact NoP.sp | apply NoP.then | apply NoP.block) rfl rfl rfl rfl rfl rfl (by kernel_rfl) (by kernel_rfl) (by kernel_rfl) ?_); (refine ga_n 10 (by repeat first | exact NoP.sp | apply NoP.then | apply NoP.block) rfl rfl rfl rfl rfl rfl (by kernel_rfl) (by kernel_rfl) (by kernel_rfl) ?_); (refine ga_n 11 (by repeat first | exact NoP.sp | apply NoP.then | apply NoP.block) rfl rfl rfl rfl rfl rfl (by kernel_rfl) (by kernel_rfl) (by kernel_rfl) ?_); (refine ga_n 12 (by repeat first | exact NoP.sp | apply NoP.then | apply NoP.block) rfl rfl rfl rfl rfl rfl (by kernel_rfl) (by kernel_rfl) (by kernel_rfl) ?_); (refine ga_n 13 (by repeat first | exact NoP.sp | apply NoP.then | apply NoP.block) rfl rfl rfl rfl rfl rfl (by kernel_rfl) (by kernel_rfl) (by kernel_rfl) ?_); (refine ga_n 14 (by repeat first | exact NoP.sp | apply NoP.then | apply NoP.block) rfl rfl rfl rfl rfl rfl (by kernel_rfl) (by kernel_rfl) (by kernel_rfl) ?_); (refine ga_n 15 (by repeat first | exact NoP.sp | apply NoP.then | apply NoP.block) rfl rfl rfl rfl rfl rfl (by kernel_rfl) (by kernel_rfl) (by kernel_rfl) ?_); (refine ga_n 16 (by repeat first | exact NoP.sp | apply NoP.then | apply NoP.block) rfl rfl rfl rfl rfl rfl (by kernel_rfl) (by kernel_rfl) (by kernel_rfl) ?_); (refine ga_n 17 (by repeat first | exact NoP.sp | apply NoP.then | apply NoP.block) rfl rfl rfl rfl rfl rfl (by kernel_rfl) (by kernel_rfl) (by kernel_rfl) ?_); (refine ga_p 18 (by repeat first | exact NoP.sp | apply NoP.then | apply NoP.block) rfl (pv_spec rfl) rfl (by kernel_rfl) (by kernel_rfl) (by kernel_rfl) ?_); (refine ga_p 19 (by repeat first | exact NoP.sp | apply NoP.then | apply NoP.block) rfl (pv_spec rfl) rfl (by kernel_rfl) (by kernel_rfl) (by kernel_rfl) ?_)
      refine ga_nil (by kernel_rfl) ?_
      repeat' (first | refine g_pv rfl rfl ?_ | refine g_ld 1 rfl rfl rfl rfl rfl rfl ?_ | refine g_nil ?_ | refine gq_then ?_ | refine gc_region ?_ | refine gq_block ?_)
      refine gq_at true trivial ⟨rfl, rfl, rfl, congrArg (fun b => some (Value.bool b)) ?_, congrArg (fun n => some (Value.int .i64 n)) ?_, trivial⟩ (fun w' H => ?_)
      · simp [okI, hop, h2]
      · simp [argsN, hop]
      · rw [shape8 hop]; exact H
    have h2 : inB x.n j.p.fns.length = true := h2
    have hb2 : 0 ≤ x.n ∧ x.n < j.p.fns.length := by simpa [inB] using h2
    have hlx : j.p.fns[x.n.toNat]? = some (j.p.fns[x.n.toNat]'(by omega)) := List.getElem?_eq_getElem (by omega)
    generalize j.p.fns[x.n.toNat]'(by omega) = q at hlx
    (refine ga_ld 8 2 (by repeat first | exact NoP.sp | apply NoP.then | apply NoP.block) rfl (wanted_yes rfl rfl rfl) rfl rfl rfl rfl rfl rfl (by kernel_rfl) (by kernel_rfl) (by kernel_rfl) ?_); (refine ga_ld 9 1 (by repeat first | exact NoP.sp | apply NoP.then | apply NoP.block) rfl (wanted_yes rfl rfl rfl) rfl rfl rfl rfl rfl rfl (by kernel_rfl) (by kernel_rfl) (by kernel_rfl) ?_); (refine ga_py 10 (by repeat first | exact NoP.sp | apply NoP.then | apply NoP.block) rfl rfl rfl rfl (pv_spec rfl) rfl (by kernel_rfl) (by kernel_rfl) (by kernel_rfl) ?_); (refine ga_py 11 (by repeat first | exact NoP.sp | apply NoP.then | apply NoP.block) rfl rfl rfl rfl (pv_spec rfl) rfl (by kernel_rfl) (by kernel_rfl) (by kernel_rfl) ?_); (refine ga_ld 12 2 (by repeat first | exact NoP.sp | apply NoP.then | apply NoP.block) rfl (wanted_yes rfl rfl rfl) rfl rfl rfl rfl rfl rfl (by kernel_rfl) (by kernel_rfl) (by kernel_rfl) ?_); (refine ga_py 13 (by repeat first | exact NoP.sp | apply NoP.then | apply NoP.block) rfl rfl rfl rfl (pv_spec rfl) rfl (by kernel_rfl) (by kernel_rfl) (by kernel_rfl) ?_); (refine ga_ld 14 1 (by repeat first | exact NoP.sp | apply NoP.then | apply NoP.block) rfl (wanted_yes rfl rfl rfl) rfl rfl rfl rfl rfl rfl (by kernel_rfl) (by kernel_rfl) (by kernel_rfl) ?_)
    refine ga_at 15 16 (l := j.p.fns) (f := Fn.cells) (u := q) (by repeat first | exact NoP.sp | apply NoP.then | apply NoP.block) rfl (wanted_yes rfl rfl rfl) rfl (fun a _ h => wanted_yes rfl rfl rfl a h) rfl rfl rfl rfl rfl hb2.1 hb2.2 (still_rdO (hj.p.fns.le (old_le0 _ w))) hlx rfl rfl rfl rfl (by kernel_rfl) (by kernel_rfl) (by kernel_rfl) (by kernel_rfl) (by kernel_rfl) (fun a => ?_)
    refine ga_one (i := 17) (by kernel_rfl) (gs_of rfl (fun K hK => ?_))
    refine g_yes rfl rfl rfl ?_
    refine g_call rfl (Cl.of Tryz.func81 rfl rfl) rfl rfl (fun w' hE => call_sp j x q w' (hx.le (fun b o h => old_le hE b o (old_le0 _ w b o h))) (hj.le (fun b o h => old_le hE b o (old_le0 _ w b o h)))) rfl ?_
    rintro b hb
    refine g_nil ?_
    refine hK _ _ ⟨[], List.Perm.of_eq rfl⟩ ?_
    (refine ga_p 18 (by repeat first | exact NoP.sp | apply NoP.then | apply NoP.block) rfl (pv_spec rfl) rfl (by kernel_rfl) (by kernel_rfl) (by kernel_rfl) ?_); (refine ga_p 19 (by repeat first | exact NoP.sp | apply NoP.then | apply NoP.block) rfl (pv_spec rfl) rfl (by kernel_rfl) (by kernel_rfl) (by kernel_rfl) ?_)
    refine ga_nil (by kernel_rfl) ?_
    have hb : b = callB j x q := hb
    repeat' (first | refine g_pv rfl rfl ?_ | refine g_ld 1 rfl rfl rfl rfl rfl rfl ?_ | refine g_nil ?_ | refine gq_then ?_ | refine gc_region ?_ | refine gq_block ?_)
    refine gq_at true trivial ⟨rfl, rfl, rfl, congrArg (fun b => some (Value.bool b)) ?_, congrArg (fun n => some (Value.int .i64 n)) ?_, trivial⟩ (fun w' H => ?_)
    · simp [okI, hop, h2, hlx, hb]
    · simp [argsN, hop]
    · rw [shape8 hop]; exact H
  repeat' (first | refine g_pv rfl rfl ?_ | refine g_nil ?_ | refine gq_then ?_ | refine gc_seq ?_ | refine gc_region ?_)
  refine gc_condC rfl (fun c9 => ?_) (fun c9 => ?_)
  · have hop : x.op = 9 := beq_iff_eq.1 c9
    repeat' (first | refine g_pv rfl rfl ?_ | refine g_ld 1 rfl rfl rfl rfl rfl rfl ?_ | refine g_ld 2 rfl rfl rfl rfl rfl rfl ?_ | refine g_nil ?_ | refine gq_then ?_ | refine gc_seq ?_ | refine gc_region ?_ | refine g_st 0 rfl rfl rfl rfl rfl rfl rfl ?_)
    refine g_case (t := 289) rfl (fun h1 => ?_) (fun h1 => ?_)
    · repeat' (first | refine g_pv rfl rfl ?_ | refine g_ld 1 rfl rfl rfl rfl rfl rfl ?_ | refine g_ld 2 rfl rfl rfl rfl rfl rfl ?_ | refine g_yes rfl rfl rfl ?_)
      refine g_call rfl (Cl.of Tryz.func79 rfl rfl) rfl rfl (fun w' hE => arg_sp j x.a w' (hx.ok x.a (by simp)) hj.f.te) rfl ?_
      rintro q hq
      have hq : argB j.f.te x.a = q := hq.symm
      cases q
      · repeat' (first | refine g_pv rfl rfl ?_ | refine g_ld 2 rfl rfl rfl rfl rfl rfl ?_ | refine g_yes rfl rfl rfl ?_)
        refine g_eq 300 (u' := .bool false) rfl (by rw [h1]; rfl) ?_
        repeat' (first | refine g_pv rfl rfl ?_ | refine g_nil ?_ | refine gq_block ?_ | refine g_yes rfl rfl rfl ?_ | refine g_no rfl rfl rfl rfl rfl ?_)
        refine gq_at true trivial ⟨rfl, rfl, rfl, congrArg (fun b => some (Value.bool b)) ?_, congrArg (fun n => some (Value.int .i64 n)) ?_, trivial⟩ (fun w' H => ?_)
        · simp [okI, hop, h1, hq]
        · simp [argsN, hop]
        · rw [shape9 hop]; exact H
      · -- yes
        repeat' (first | refine g_pv rfl rfl ?_ | refine g_nil ?_ | refine gq_block ?_ | refine g_no rfl rfl rfl rfl rfl ?_)
        refine gq_at true trivial ⟨rfl, rfl, rfl, congrArg (fun b => some (Value.bool b)) ?_, congrArg (fun n => some (Value.int .i64 n)) ?_, trivial⟩ (fun w' H => ?_)
        · simp [okI, hop, h1, hq]
        · simp [argsN, hop]
        · rw [shape9 hop]; exact H
    · repeat' (first | refine g_pv rfl rfl ?_ | refine g_ld 2 rfl rfl rfl rfl rfl rfl ?_ | refine g_yes rfl rfl rfl ?_ | refine g_no rfl rfl rfl rfl rfl ?_)
      refine g_eq 300 (u' := .bool true) rfl (by rw [h1]; rfl) ?_
      repeat' (first | refine g_pv rfl rfl ?_ | refine g_ld 1 rfl rfl rfl rfl rfl rfl ?_ | refine g_yes rfl rfl rfl ?_)
      refine g_p (p_build rfl rfl rfl rfl) rfl ?_
      repeat' (refine g_yes rfl rfl rfl ?_)
      refine g_p (p_eqA rfl rfl rfl rfl rfl (by kernel_rfl)) rfl ?_
      repeat' (first | refine g_pv rfl rfl ?_ | refine g_nil ?_ | refine gq_block ?_ | refine g_yes rfl rfl rfl ?_)
      refine gq_at true trivial ⟨rfl, rfl, rfl, congrArg (fun b => some (Value.bool b)) ?_, congrArg (fun n => some (Value.int .i64 n)) ?_, trivial⟩ (fun w' H => ?_)
      · simp [okI, hop, h1]
      · simp [argsN, hop]
      · rw [shape9 hop]; exact H
  repeat' (first | refine g_pv rfl rfl ?_ | refine g_nil ?_ | refine gq_then ?_ | refine gc_seq ?_ | refine gc_region ?_)
  refine gc_condC rfl (fun c10 => ?_) (fun c10 => ?_)
  · have hop : x.op = 10 := beq_iff_eq.1 c10
    repeat' (first | refine g_pv rfl rfl ?_ | refine g_ld 1 rfl rfl rfl rfl rfl rfl ?_ | refine g_ld 2 rfl rfl rfl rfl rfl rfl ?_ | refine g_nil ?_ | refine gq_then ?_ | refine gc_seq ?_ | refine gc_region ?_ | refine g_st 0 rfl rfl rfl rfl rfl rfl rfl ?_)
    refine g_call rfl (Cl.of Tryz.func23 rfl rfl) rfl rfl (fun w' hE => within_sp _ _ w') rfl (fun _ _ => ?_)
    repeat' (first | refine g_pv rfl rfl ?_ | refine g_nil ?_ | refine gq_block ?_)
    repeat' (fail)
    refine gq_at true trivial ⟨rfl, rfl, rfl, congrArg (fun b => some (Value.bool b)) ?_, congrArg (fun n => some (Value.int .i64 n)) ?_, trivial⟩ (fun w' H => ?_)
    · show inB x.n j.f.code.length = _; simp [okI, hop]
    · simp [argsN, hop]
    · rw [shape10 hop]; exact H
  repeat' (first | refine g_pv rfl rfl ?_ | refine g_nil ?_ | refine gq_then ?_ | refine gc_seq ?_ | refine gc_region ?_)
  refine gc_condC rfl (fun c11 => ?_) (fun c11 => ?_)
  · have hop : x.op = 11 := beq_iff_eq.1 c11
    repeat' (refine gc_seq ?_)
    refine gc_draw [[(b3, .cells ⟨x.cells⟩ 43 (0, 0))], [(b2, .cells ⟨j.cells⟩ 59 (0, 0))]] [_] rfl List.perm_append_comm ?_
    (refine ga_p 0 (by repeat first | exact NoP.sp | apply NoP.then | apply NoP.block) rfl (pv_spec rfl) rfl (by kernel_rfl) (by kernel_rfl) (by kernel_rfl) ?_); (refine ga_ld 1 0 (by repeat first | exact NoP.sp | apply NoP.then | apply NoP.block) rfl wanted_none rfl rfl rfl rfl rfl rfl (by kernel_rfl) (by kernel_rfl) (by kernel_rfl) ?_); (refine ga_p 2 (by repeat first | exact NoP.sp | apply NoP.then | apply NoP.block) rfl (pv_spec rfl) rfl (by kernel_rfl) (by kernel_rfl) (by kernel_rfl) ?_); (refine ga_ld 3 0 (by repeat first | exact NoP.sp | apply NoP.then | apply NoP.block) rfl wanted_none rfl rfl rfl rfl rfl rfl (by kernel_rfl) (by kernel_rfl) (by kernel_rfl) ?_); (refine ga_p 4 (by repeat first | exact NoP.sp | apply NoP.then | apply NoP.block) rfl (pv_spec rfl) rfl (by kernel_rfl) (by kernel_rfl) (by kernel_rfl) ?_)
    refine ga_one (i := 5) (by kernel_rfl) (gs_of rfl (fun K hK => ?_))
    refine g_st 0 rfl rfl rfl rfl rfl rfl rfl ?_
    refine g_heap (R' := [[(b5, .cells ⟨[.int .i64 x.op, .int .i64 0, .int .i64 (-1), .int .i64 0, .int .u32 0, .int .i64 0, .int .u32 0, .int .i64 x.n, .int .i64 0, .int .i64 0, .bool false, .slice none 0 0]⟩ 43 (0, 0))], [(b3, .cells ⟨x.cells⟩ 43 (0, 0))], [(b2, .cells ⟨j.cells⟩ 59 (0, 0))]]) (fun w H => H) ?_
    refine g_nil ?_
    refine hK _ _ ⟨[_], List.perm_append_comm⟩ ?_
    (refine ga_p 6 (by repeat first | exact NoP.sp | apply NoP.then | apply NoP.block) rfl (pv_spec rfl) rfl (by kernel_rfl) (by kernel_rfl) (by kernel_rfl) ?_)
    refine ga_one (i := 7) (by kernel_rfl) (gs_of rfl (fun K hK => ?_))
    refine g_st 0 rfl rfl rfl rfl rfl rfl rfl ?_
    refine g_heap (R' := [[(b5, .cells ⟨[.int .i64 x.op, .int .i64 0, .int .i64 (-1), .int .i64 x.a.k, .int .u32 x.a.n, .int .i64 0, .int .u32 0, .int .i64 x.n, .int .i64 0, .int .i64 0, .bool false, .slice none 0 0]⟩ 43 (0, 0))], [(b3, .cells ⟨x.cells⟩ 43 (0, 0))], [(b2, .cells ⟨j.cells⟩ 59 (0, 0))]]) (fun w H => H) ?_
    refine g_nil ?_
    refine hK _ _ ⟨[_], List.perm_append_comm⟩ ?_
    refine ga_nil (by kernel_rfl) ?_
    repeat' (first | refine g_pv rfl rfl ?_ | refine g_ld 1 rfl rfl rfl rfl rfl rfl ?_ | refine g_ld 2 rfl rfl rfl rfl rfl rfl ?_ | refine gq_then ?_ | refine gc_region ?_)
    refine g_call rfl (Cl.of Tryz.func23 rfl rfl) rfl rfl (fun w' hE => within_sp _ _ w') rfl (fun _ _ => ?_)
    repeat' (refine g_pv rfl rfl ?_)
    refine g_case (t := 334) rfl (fun h19 => ?_) (fun h19 => ?_)
    rotate_left
    · have h19 : inB x.n j.f.code.length = false := h19
      repeat' (first | refine g_pv rfl rfl ?_ | refine g_nil ?_ | refine gq_block ?_ | refine g_no rfl rfl rfl rfl rfl ?_)
      refine gq_at true trivial ⟨rfl, rfl, rfl, congrArg (fun b => some (Value.bool b)) ?_, congrArg (fun n => some (Value.int .i64 n)) ?_, trivial⟩ (fun w' H => ?_)
      · simp [okI, hop, h19]
      · simp [argsN, hop]
      · rw [shape11 hop]; exact H
    have h19 : inB x.n j.f.code.length = true := h19
    repeat' (first | refine g_pv rfl rfl ?_ | refine g_ld 1 rfl rfl rfl rfl rfl rfl ?_ | refine g_ld 2 rfl rfl rfl rfl rfl rfl ?_ | refine g_yes rfl rfl rfl ?_)
    refine g_call rfl (Cl.of Tryz.func79 rfl rfl) rfl rfl (fun w' hE => arg_sp j x.a w' (hx.ok x.a (by simp)) hj.f.te) rfl ?_
    rintro q20 hq20
    have hq20 : argB j.f.te x.a = q20 := hq20.symm
    cases q20
    · -- no
      repeat' (first | refine g_pv rfl rfl ?_ | refine g_nil ?_ | refine gq_block ?_)
      refine gq_at true trivial ⟨rfl, rfl, rfl, congrArg (fun b => some (Value.bool b)) ?_, congrArg (fun n => some (Value.int .i64 n)) ?_, trivial⟩ (fun w' H => ?_)
      · simp [okI, hop, h19, hq20]
      · simp [argsN, hop]
      · rw [shape11 hop]; exact H
    · -- yes
      repeat' (first | refine g_pv rfl rfl ?_ | refine g_nil ?_ | refine gq_block ?_)
      repeat' (fail)
      refine gq_at true trivial ⟨rfl, rfl, rfl, congrArg (fun b => some (Value.bool b)) ?_, congrArg (fun n => some (Value.int .i64 n)) ?_, trivial⟩ (fun w' H => ?_)
      · simp [okI, hop, h19, hq20]
      · simp [argsN, hop]
      · rw [shape11 hop]; exact H
  repeat' (first | refine g_pv rfl rfl ?_ | refine g_nil ?_ | refine gq_then ?_ | refine gc_seq ?_ | refine gc_region ?_)
  refine gc_condC rfl (fun c12 => ?_) (fun c12 => ?_)
  · have hop : x.op = 12 := beq_iff_eq.1 c12
    repeat' (first | refine g_pv rfl rfl ?_ | refine g_ld 1 rfl rfl rfl rfl rfl rfl ?_ | refine g_ld 2 rfl rfl rfl rfl rfl rfl ?_ | refine g_nil ?_ | refine gq_then ?_ | refine gc_seq ?_ | refine gc_region ?_ | refine gc_cond_t rfl ?_ | refine gc_skip ?_ | refine g_st 0 rfl rfl rfl rfl rfl rfl rfl ?_)
    refine g_call rfl (Cl.of Tryz.func79 rfl rfl) rfl rfl (fun w' hE => arg_sp j x.a w' (hx.ok x.a (by simp)) hj.f.te) rfl ?_
    rintro q21 hq21
    have hq21 : argB j.f.te x.a = q21 := hq21.symm
    cases q21
    · -- no
      repeat' (first | refine g_pv rfl rfl ?_ | refine g_nil ?_ | refine gq_block ?_)
      refine gq_at true trivial ⟨rfl, rfl, rfl, congrArg (fun b => some (Value.bool b)) ?_, congrArg (fun n => some (Value.int .i64 n)) ?_, trivial⟩ (fun w' H => ?_)
      · simp [okI, hop, hq21]
      · simp [argsN, hop]
      · rw [shape12 hop]; exact H
    · -- yes
      repeat' (first | refine g_pv rfl rfl ?_ | refine g_nil ?_ | refine gq_block ?_)
      repeat' (fail)
      refine gq_at true trivial ⟨rfl, rfl, rfl, congrArg (fun b => some (Value.bool b)) ?_, congrArg (fun n => some (Value.int .i64 n)) ?_, trivial⟩ (fun w' H => ?_)
      · simp [okI, hop, hq21]
      · simp [argsN, hop]
      · rw [shape12 hop]; exact H
  repeat' (first | refine g_pv rfl rfl ?_ | refine g_nil ?_ | refine gq_then ?_ | refine gc_region ?_)
  refine gc_condC rfl (fun c14 => ?_) (fun c14 => ?_)
  · have hop : x.op = 14 := beq_iff_eq.1 c14
    repeat' (first | refine g_pv rfl rfl ?_ | refine g_ld 1 rfl rfl rfl rfl rfl rfl ?_ | refine g_ld 2 rfl rfl rfl rfl rfl rfl ?_ | refine g_nil ?_ | refine gq_then ?_ | refine gc_seq ?_ | refine gc_region ?_ | refine g_st 0 rfl rfl rfl rfl rfl rfl rfl ?_)
    refine g_call rfl (Cl.of Tryz.func79 rfl rfl) rfl rfl (fun w' hE => arg_sp j x.a w' (hx.ok x.a (by simp)) hj.f.te) rfl ?_
    rintro q22 hq22
    have hq22 : argB j.f.te x.a = q22 := hq22.symm
    cases q22
    · -- no
      repeat' (first | refine g_pv rfl rfl ?_ | refine g_nil ?_ | refine gq_block ?_)
      refine gq_at true trivial ⟨rfl, rfl, rfl, congrArg (fun b => some (Value.bool b)) ?_, congrArg (fun n => some (Value.int .i64 n)) ?_, trivial⟩ (fun w' H => ?_)
      · simp [okI, hop, hq22]
      · simp [argsN, hop]
      · rw [shape14 hop]; exact H
    · -- yes
      repeat' (first | refine g_pv rfl rfl ?_ | refine g_nil ?_ | refine gq_block ?_)
      repeat' (fail)
      refine gq_at true trivial ⟨rfl, rfl, rfl, congrArg (fun b => some (Value.bool b)) ?_, congrArg (fun n => some (Value.int .i64 n)) ?_, trivial⟩ (fun w' H => ?_)
      · simp [okI, hop, hq22]
      · simp [argsN, hop]
      · rw [shape14 hop]; exact H
  repeat' (first | refine g_pv rfl rfl ?_ | refine g_nil ?_ | refine gq_then ?_ | refine gc_seq ?_ | refine gc_region ?_)
  refine gc_condC rfl (fun c13 => ?_) (fun c13 => ?_)
  · have hop : x.op = 13 := beq_iff_eq.1 c13
    repeat' (first | refine g_pv rfl rfl ?_ | refine g_ld 1 rfl rfl rfl rfl rfl rfl ?_ | refine g_nil ?_ | refine gq_then ?_ | refine gc_seq ?_ | refine gc_region ?_ | refine gq_block ?_ | refine g_st 0 rfl rfl rfl rfl rfl rfl rfl ?_)
    repeat' (fail)
    refine gq_at true trivial ⟨rfl, rfl, rfl, congrArg (fun b => some (Value.bool b)) ?_, congrArg (fun n => some (Value.int .i64 n)) ?_, trivial⟩ (fun w' H => ?_)
    · show inB x.d j.f.te = _; simp [okI, hop]
    · simp [argsN, hop]
    · rw [shape13 hop]; exact H
  repeat' (first | refine gc_skip ?_ | refine gq_block ?_)
  refine gq_at true trivial ⟨rfl, rfl, rfl, congrArg (fun b => some (Value.bool b)) ?_, congrArg (fun n => some (Value.int .i64 n)) ?_, trivial⟩ (fun w' H => ?_)
  · simp [okI, beq_eq_false_iff_ne.1 c1, beq_eq_false_iff_ne.1 c2, beq_eq_false_iff_ne.1 c3, beq_eq_false_iff_ne.1 c4, beq_eq_false_iff_ne.1 c5, beq_eq_false_iff_ne.1 c6, beq_eq_false_iff_ne.1 c7, beq_eq_false_iff_ne.1 c8, beq_eq_false_iff_ne.1 c9, beq_eq_false_iff_ne.1 c10, beq_eq_false_iff_ne.1 c11, beq_eq_false_iff_ne.1 c12, beq_eq_false_iff_ne.1 c13, beq_eq_false_iff_ne.1 c14]
  · simp [argsN, beq_eq_false_iff_ne.1 c1, beq_eq_false_iff_ne.1 c2, beq_eq_false_iff_ne.1 c3, beq_eq_false_iff_ne.1 c4, beq_eq_false_iff_ne.1 c5, beq_eq_false_iff_ne.1 c6, beq_eq_false_iff_ne.1 c7, beq_eq_false_iff_ne.1 c8, beq_eq_false_iff_ne.1 c9, beq_eq_false_iff_ne.1 c10, beq_eq_false_iff_ne.1 c11, beq_eq_false_iff_ne.1 c12, beq_eq_false_iff_ne.1 c13, beq_eq_false_iff_ne.1 c14]
  · rw [show shapeI x = { op := x.op, bin := 0, d := -1, a := ⟨0, 0⟩, b := ⟨0, 0⟩, n := 0, off := 0, width := 0, signed := false, args := [], aA := none, aC := 0 } from by simp [shapeI, beq_eq_false_iff_ne.1 c1, beq_eq_false_iff_ne.1 c2, beq_eq_false_iff_ne.1 c3, beq_eq_false_iff_ne.1 c4, beq_eq_false_iff_ne.1 c5, beq_eq_false_iff_ne.1 c6, beq_eq_false_iff_ne.1 c7, beq_eq_false_iff_ne.1 c8, beq_eq_false_iff_ne.1 c9, beq_eq_false_iff_ne.1 c10, beq_eq_false_iff_ne.1 c11, beq_eq_false_iff_ne.1 c12, beq_eq_false_iff_ne.1 c13, beq_eq_false_iff_ne.1 c14]]; exact H
end Go.Proofs.YtpohhfggmaihpaaGreatDoor
