/-
  tac's judge: right.
  The plain law of TacNexts: where a right instruction goes on.
  What a right instruction keeps to.
  A string's byte; contracts of the library's that leave more blocks behind.
  The shelf's numbers of strings.Trim and strings.CutPrefix at this translation, as the kit's lay-plain wrote them.
-/
import Derived.Test.YtpohhfggmaihpaaGreatDoorZ9
import Derived.Test.YtpohhfggmaihpaaGreatDoorZ8
import Derived.Below
import Derived.Shelf.Strings.SlTrimAscii
import Derived.Shelf.Small.Wraps
import Derived.Ground.Names2Prog
import Derived.Test.YtpohhfggmaihpaaGreatDoorProg

/- tac's judge: right. -/
namespace Go.Proofs.YtpohhfggmaihpaaGreatDoor
open Go.Wk
set_option linter.unusedVariables false
set_option linter.unusedSimpArgs false
attribute [local irreducible] G GC GQ GA GS Exit.then Exit.inBlock

/-- The instruction that has just what its operation names. -/
def shapeI (x : Ins) : Ins :=
  if x.op = 1 then ({ op := x.op, bin := 0, d := x.d, a := x.a, b := ⟨0, 0⟩, n := 0, off := 0, width := 0, signed := false, args := [], aA := none, aC := 0 } : Ins) else
  if x.op = 2 then ({ op := x.op, bin := x.bin, d := x.d, a := x.a, b := x.b, n := 0, off := 0, width := 0, signed := false, args := [], aA := none, aC := 0 } : Ins) else
  if x.op = 3 then ({ op := x.op, bin := 0, d := x.d, a := ⟨0, 0⟩, b := ⟨0, 0⟩, n := x.n, off := x.off, width := 0, signed := false, args := [], aA := none, aC := 0 } : Ins) else
  if x.op = 4 then ({ op := x.op, bin := 0, d := x.d, a := ⟨0, 0⟩, b := ⟨0, 0⟩, n := x.n, off := x.off, width := 0, signed := false, args := [], aA := none, aC := 0 } : Ins) else
  if x.op = 5 then ({ op := x.op, bin := 0, d := x.d, a := x.a, b := ⟨0, 0⟩, n := 0, off := x.off, width := x.width, signed := x.signed, args := [], aA := none, aC := 0 } : Ins) else
  if x.op = 6 then ({ op := x.op, bin := 0, d := -1, a := x.a, b := x.b, n := 0, off := x.off, width := x.width, signed := false, args := [], aA := none, aC := 0 } : Ins) else
  if x.op = 7 then ({ op := x.op, bin := 0, d := -1, a := x.a, b := x.b, n := 0, off := x.off, width := x.width, signed := false, args := [], aA := none, aC := 0 } : Ins) else
  if x.op = 8 then ({ op := x.op, bin := 0, d := x.d, a := ⟨0, 0⟩, b := ⟨0, 0⟩, n := x.n, off := 0, width := 0, signed := false, args := [], aA := none, aC := 0 } : Ins) else
  if x.op = 9 then ({ op := x.op, bin := 0, d := -1, a := x.a, b := ⟨0, 0⟩, n := 0, off := 0, width := 0, signed := false, args := [], aA := none, aC := 0 } : Ins) else
  if x.op = 10 then ({ op := x.op, bin := 0, d := -1, a := ⟨0, 0⟩, b := ⟨0, 0⟩, n := x.n, off := 0, width := 0, signed := false, args := [], aA := none, aC := 0 } : Ins) else
  if x.op = 11 then ({ op := x.op, bin := 0, d := -1, a := x.a, b := ⟨0, 0⟩, n := x.n, off := 0, width := 0, signed := false, args := [], aA := none, aC := 0 } : Ins) else
  if x.op = 12 then ({ op := x.op, bin := 0, d := -1, a := x.a, b := ⟨0, 0⟩, n := 0, off := 0, width := 0, signed := false, args := [], aA := none, aC := 0 } : Ins) else
  if x.op = 13 then ({ op := x.op, bin := 0, d := x.d, a := ⟨0, 0⟩, b := ⟨0, 0⟩, n := 0, off := 0, width := 0, signed := false, args := [], aA := none, aC := 0 } : Ins) else
  if x.op = 14 then ({ op := x.op, bin := 0, d := -1, a := x.a, b := ⟨0, 0⟩, n := 0, off := 0, width := 0, signed := false, args := [], aA := none, aC := 0 } : Ins) else
  { op := x.op, bin := 0, d := -1, a := ⟨0, 0⟩, b := ⟨0, 0⟩, n := 0, off := 0, width := 0, signed := false, args := [], aA := none, aC := 0 }
theorem shape1 {x : Ins} (h : x.op = 1) : shapeI x = { op := x.op, bin := 0, d := x.d, a := x.a, b := ⟨0, 0⟩, n := 0, off := 0, width := 0, signed := false, args := [], aA := none, aC := 0 } := by simp [shapeI, h]
theorem shape2 {x : Ins} (h : x.op = 2) : shapeI x = { op := x.op, bin := x.bin, d := x.d, a := x.a, b := x.b, n := 0, off := 0, width := 0, signed := false, args := [], aA := none, aC := 0 } := by simp [shapeI, h]
theorem shape3 {x : Ins} (h : x.op = 3) : shapeI x = { op := x.op, bin := 0, d := x.d, a := ⟨0, 0⟩, b := ⟨0, 0⟩, n := x.n, off := x.off, width := 0, signed := false, args := [], aA := none, aC := 0 } := by simp [shapeI, h]
theorem shape4 {x : Ins} (h : x.op = 4) : shapeI x = { op := x.op, bin := 0, d := x.d, a := ⟨0, 0⟩, b := ⟨0, 0⟩, n := x.n, off := x.off, width := 0, signed := false, args := [], aA := none, aC := 0 } := by simp [shapeI, h]
theorem shape5 {x : Ins} (h : x.op = 5) : shapeI x = { op := x.op, bin := 0, d := x.d, a := x.a, b := ⟨0, 0⟩, n := 0, off := x.off, width := x.width, signed := x.signed, args := [], aA := none, aC := 0 } := by simp [shapeI, h]
theorem shape6 {x : Ins} (h : x.op = 6) : shapeI x = { op := x.op, bin := 0, d := -1, a := x.a, b := x.b, n := 0, off := x.off, width := x.width, signed := false, args := [], aA := none, aC := 0 } := by simp [shapeI, h]
theorem shape7 {x : Ins} (h : x.op = 7) : shapeI x = { op := x.op, bin := 0, d := -1, a := x.a, b := x.b, n := 0, off := x.off, width := x.width, signed := false, args := [], aA := none, aC := 0 } := by simp [shapeI, h]
theorem shape8 {x : Ins} (h : x.op = 8) : shapeI x = { op := x.op, bin := 0, d := x.d, a := ⟨0, 0⟩, b := ⟨0, 0⟩, n := x.n, off := 0, width := 0, signed := false, args := [], aA := none, aC := 0 } := by simp [shapeI, h]
theorem shape9 {x : Ins} (h : x.op = 9) : shapeI x = { op := x.op, bin := 0, d := -1, a := x.a, b := ⟨0, 0⟩, n := 0, off := 0, width := 0, signed := false, args := [], aA := none, aC := 0 } := by simp [shapeI, h]
theorem shape10 {x : Ins} (h : x.op = 10) : shapeI x = { op := x.op, bin := 0, d := -1, a := ⟨0, 0⟩, b := ⟨0, 0⟩, n := x.n, off := 0, width := 0, signed := false, args := [], aA := none, aC := 0 } := by simp [shapeI, h]
theorem shape11 {x : Ins} (h : x.op = 11) : shapeI x = { op := x.op, bin := 0, d := -1, a := x.a, b := ⟨0, 0⟩, n := x.n, off := 0, width := 0, signed := false, args := [], aA := none, aC := 0 } := by simp [shapeI, h]
theorem shape12 {x : Ins} (h : x.op = 12) : shapeI x = { op := x.op, bin := 0, d := -1, a := x.a, b := ⟨0, 0⟩, n := 0, off := 0, width := 0, signed := false, args := [], aA := none, aC := 0 } := by simp [shapeI, h]
theorem shape13 {x : Ins} (h : x.op = 13) : shapeI x = { op := x.op, bin := 0, d := x.d, a := ⟨0, 0⟩, b := ⟨0, 0⟩, n := 0, off := 0, width := 0, signed := false, args := [], aA := none, aC := 0 } := by simp [shapeI, h]
theorem shape14 {x : Ins} (h : x.op = 14) : shapeI x = { op := x.op, bin := 0, d := -1, a := x.a, b := ⟨0, 0⟩, n := 0, off := 0, width := 0, signed := false, args := [], aA := none, aC := 0 } := by simp [shapeI, h]
def argsN (x : Ins) : Int := if x.op = 8 then x.args.length else 0
/-- Is what the row of its operation says so? -/
def okI (nb : Bool) (j : Jg) (x : Ins) : Bool :=
  if x.op = 1 then inB x.d j.f.te && argB j.f.te x.a else
  if x.op = 2 then inB x.d j.f.te && (argB j.f.te x.a && (argB j.f.te x.b && ((nameL x.bin).toList != (⟨#[]⟩ : ByteArray).toList))) else
  if x.op = 3 then inB x.d j.f.te && (inB x.n j.f.slots.length && (match j.f.slots[x.n.toNat]? with | some s => inB x.off (IntKind.i64.wrap (s.size + 1)) | none => false)) else
  if x.op = 4 then inB x.d j.f.te && (inB x.n j.p.obs.length && (match j.p.obs[x.n.toNat]? with | some s => inB x.off (IntKind.i64.wrap (s.size + 1)) | none => false)) else
  if x.op = 5 then inB x.d j.f.te && (argB j.f.te x.a && (offB x && (decide (x.width < 4) || !x.signed))) else
  if x.op = 6 then argB j.f.te x.a && (argB j.f.te x.b && offB x) else
  if x.op = 7 then argB j.f.te x.a && (argB j.f.te x.b && (powB x.width && (decide (x.off ≥ 1) && (decide (x.off ≤ 16384) && (x.off.tmod x.width == 0))))) else
  if x.op = 8 then inB x.n j.p.fns.length && (match j.p.fns[x.n.toNat]? with | some g => callB j x g | none => false) else
  if x.op = 9 then (j.f.gi && argB j.f.te x.a) || (!j.f.gi && (x.a.k == 0 && x.a.n == 0)) else
  if x.op = 10 then inB x.n j.f.code.length else
  if x.op = 11 then inB x.n j.f.code.length && argB j.f.te x.a else
  if x.op = 12 then argB j.f.te x.a else
  if x.op = 13 then inB x.d j.f.te else
  if x.op = 14 then argB j.f.te x.a else false
def rightB (nb : Bool) (j : Jg) (x : Ins) : Bool := okI nb j x && (((x.args.length : Int) == argsN x) && alikeB x (shapeI x))

set_option maxHeartbeats 16000000 in
theorem right_sp (j : Jg) (x : Ins) (w : World) (hx : InsIn (hw w) x) (hj : JgIn (hw w) j) : Sp Tryz.prog 48 [j.val, x.val] w [] (fun b : Bool => .bool b) (fun _ => []) (fun b => ∃ nb, b = rightB nb j x) := by
  refine enter (s := Tryz.sx) [] Tryz.func48 rfl rfl rfl (Eff.refl w) ?_
  refine gc_seq ?_
  repeat' (first | refine g_pv rfl rfl ?_ | refine g_nil ?_ | refine gq_then ?_ | refine gc_region ?_ | refine g_box rfl rfl (fun _ => ?_))
  rename_i b2 b3
  refine gc_seq ?_
  repeat' (first | refine g_pv rfl rfl ?_ | refine g_ld 0 rfl rfl rfl rfl rfl rfl ?_ | refine gc_region ?_)
  refine g_p (p_build rfl rfl rfl rfl) rfl ?_
  repeat' (first | refine g_nil ?_ | refine gq_then ?_ | refine g_alloc rfl rfl (fun _ => ?_) | refine g_st 0 rfl rfl rfl rfl rfl rfl rfl ?_)
  rename_i b5
  refine gc_seq ?_
  repeat' (first | refine g_pv rfl rfl ?_ | refine g_nil ?_ | refine gq_then ?_ | refine gc_region ?_)
  refine gc_seq ?_
  repeat' (first | refine g_pv rfl rfl ?_ | refine g_ld 1 rfl rfl rfl rfl rfl rfl ?_ | refine g_ld 2 rfl rfl rfl rfl rfl rfl ?_ | refine gc_region ?_)
  refine g_call rfl (Cl.of Tryz.func23 rfl rfl) rfl rfl (fun w' hE => within_sp x.d j.f.te w') rfl (fun _ _ => ?_)
  repeat' (first | refine g_pv rfl rfl ?_ | refine g_nil ?_ | refine gq_then ?_)
  refine gc_seq ?_
  repeat' (first | refine g_pv rfl rfl ?_ | refine g_nil ?_ | refine gq_then ?_ | refine gc_region ?_)
  refine gc_heap (R' := [[(b5, .cells ⟨[.int .i64 x.op, .int .i64 0, .int .i64 (-1), .int .i64 0, .int .u32 0, .int .i64 0, .int .u32 0, .int .i64 0, .int .i64 0, .int .i64 0, .bool false, .slice none 0 0]⟩ 43 (0, 0))], [(b3, .cells ⟨x.cells⟩ 43 (0, 0))], [(b2, .cells ⟨j.cells⟩ 59 (0, 0))]]) (fun w H => H) ?_
  refine gc_cut (Y := Bool) (fun _ => True) (fun nb => [(2, .pointer (some ⟨b2, 0, none⟩)), (3, .pointer (some ⟨b3, 0, none⟩)), (5, .pointer (some ⟨b5, 0, none⟩)), (6, .bool (okI nb j x)), (8, .int .i64 (argsN x))])
    (fun nb => [[(b5, .cells ⟨(shapeI x).cells⟩ 43 (0, 0))], [(b3, .cells ⟨x.cells⟩ 43 (0, 0))], [(b2, .cells ⟨j.cells⟩ 59 (0, 0))]]) ?_ ?_
  rotate_left
  · rintro nb -
    dsimp only
    repeat' (first | refine g_pv rfl rfl ?_ | refine gc_seq ?_ | refine gc_region ?_)
    refine g_case (t := 357) rfl (fun h1 => ?_) (fun h1 => ?_)
    rotate_left
    · repeat' (first | refine g_pv rfl rfl ?_ | refine g_nil ?_ | refine gq_then ?_ | refine gc_ret ?_ | refine g_no rfl rfl rfl rfl rfl ?_)
      refine gq_ret1 (.inr rfl) rfl rfl rfl (fun w' H => ⟨false, ⟨nb, ?_⟩, rfl, hp_nil H⟩)
      unfold rightB; rw [h1]; rfl
    repeat' (first | refine g_pv rfl rfl ?_ | refine g_ld 1 rfl rfl rfl rfl rfl rfl ?_ | refine g_yes rfl rfl rfl ?_)
    refine g_case (t := 364) rfl (fun h2 => ?_) (fun h2 => ?_)
    rotate_left
    · repeat' (first | refine g_pv rfl rfl ?_ | refine g_nil ?_ | refine gq_then ?_ | refine gc_ret ?_ | refine g_no rfl rfl rfl rfl rfl ?_)
      refine gq_ret1 (.inr rfl) rfl rfl rfl (fun w' H => ⟨false, ⟨nb, ?_⟩, rfl, hp_nil H⟩)
      unfold rightB; rw [h1, h2]; rfl
    repeat' (first | refine g_ld 0 rfl rfl rfl rfl rfl rfl ?_ | refine g_ld 1 rfl rfl rfl rfl rfl rfl ?_ | refine g_yes rfl rfl rfl ?_)
    refine g_call rfl (Cl.of Tryz.func82 rfl rfl) rfl rfl (fun w' hE => alike_sp x (shapeI x) w') rfl ?_
    rintro b hb
    repeat' (first | refine g_pv rfl rfl ?_ | refine g_nil ?_ | refine gq_then ?_ | refine gc_ret ?_)
    refine gq_ret1 (.inr rfl) rfl rfl rfl (fun w' H => ⟨b, ⟨nb, ?_⟩, rfl, hp_nil H⟩)
    unfold rightB; rw [h1, h2, hb]; rfl
  repeat' (first | refine g_pv rfl rfl ?_ | refine g_ld 1 rfl rfl rfl rfl rfl rfl ?_ | refine g_nil ?_ | refine gq_then ?_ | refine gc_seq ?_ | refine gc_region ?_ | refine gc_block ?_)
  refine gc_condC rfl (fun c1 => ?_) (fun c1 => ?_)
  · have hop : x.op = 1 := beq_iff_eq.1 c1
    repeat' (refine gc_seq ?_)
    refine gc_draw [[(b3, .cells ⟨x.cells⟩ 43 (0, 0))], [(b2, .cells ⟨j.cells⟩ 59 (0, 0))]] [_] rfl List.perm_append_comm ?_
    (refine aP 0 rfl rfl ?_); (refine aL 1 0 rfl wanted_none rfl rfl rfl rfl rfl ?_); (refine aP 2 rfl rfl ?_); (refine aL 3 0 rfl wanted_none rfl rfl rfl rfl rfl ?_); (refine aP 4 rfl rfl ?_)
    refine aO 5 rfl (fun K hK => ?_)
    refine g_st 0 rfl rfl rfl rfl rfl rfl rfl ?_
    refine g_heap (R' := [[(b5, .cells ⟨[.int .i64 x.op, .int .i64 0, .int .i64 x.d, .int .i64 0, .int .u32 0, .int .i64 0, .int .u32 0, .int .i64 0, .int .i64 0, .int .i64 0, .bool false, .slice none 0 0]⟩ 43 (0, 0))], [(b3, .cells ⟨x.cells⟩ 43 (0, 0))], [(b2, .cells ⟨j.cells⟩ 59 (0, 0))]]) (fun w H => H) ?_
    refine g_nil ?_
    refine hK _ _ ⟨[_], List.perm_append_comm⟩ ?_
    (refine aP 6 rfl rfl ?_)
    refine aO 7 rfl (fun K hK => ?_)
    refine g_st 0 rfl rfl rfl rfl rfl rfl rfl ?_
    refine g_heap (R' := [[(b5, .cells ⟨[.int .i64 x.op, .int .i64 0, .int .i64 x.d, .int .i64 x.a.k, .int .u32 x.a.n, .int .i64 0, .int .u32 0, .int .i64 0, .int .i64 0, .int .i64 0, .bool false, .slice none 0 0]⟩ 43 (0, 0))], [(b3, .cells ⟨x.cells⟩ 43 (0, 0))], [(b2, .cells ⟨j.cells⟩ 59 (0, 0))]]) (fun w H => H) ?_
    refine g_nil ?_
    refine hK _ _ ⟨[_], List.perm_append_comm⟩ ?_
    refine ga_nil (by kernel_rfl) ?_
    repeat' (first | refine g_pv rfl rfl ?_ | refine gq_then ?_ | refine gc_region ?_)
    refine g_case (t := 29) rfl (fun h1 => ?_) (fun h1 => ?_)
    rotate_left
    · have h1 : inB x.d j.f.te = false := h1
      repeat' (first | refine g_pv rfl rfl ?_ | refine g_nil ?_ | refine gq_block ?_ | refine g_no rfl rfl rfl rfl rfl ?_)
      refine gq_at true trivial ⟨rfl, rfl, rfl, congrArg (fun b => some (Value.bool b)) ?_, congrArg (fun n => some (Value.int .i64 n)) ?_, trivial⟩ (fun w' H => ?_)
      · simp [okI, hop, h1]
      · simp [argsN, hop]
      · rw [shape1 hop]; exact H
    have h1 : inB x.d j.f.te = true := h1
    repeat' (first | refine g_pv rfl rfl ?_ | refine g_ld 1 rfl rfl rfl rfl rfl rfl ?_ | refine g_ld 2 rfl rfl rfl rfl rfl rfl ?_ | refine g_yes rfl rfl rfl ?_)
    refine g_call rfl (Cl.of Tryz.func79 rfl rfl) rfl rfl (fun w' hE => arg_sp j x.a w' (hx.ok x.a (by simp)) hj.f.te) rfl ?_
    rintro q2 hq2
    have hq2 : argB j.f.te x.a = q2 := hq2.symm
    cases q2
    · -- no
      repeat' (first | refine g_pv rfl rfl ?_ | refine g_nil ?_ | refine gq_block ?_)
      refine gq_at true trivial ⟨rfl, rfl, rfl, congrArg (fun b => some (Value.bool b)) ?_, congrArg (fun n => some (Value.int .i64 n)) ?_, trivial⟩ (fun w' H => ?_)
      · simp [okI, hop, h1, hq2]
      · simp [argsN, hop]
      · rw [shape1 hop]; exact H
    · -- yes
      repeat' (first | refine g_pv rfl rfl ?_ | refine g_nil ?_ | refine gq_block ?_)
      repeat' (fail)
      refine gq_at true trivial ⟨rfl, rfl, rfl, congrArg (fun b => some (Value.bool b)) ?_, congrArg (fun n => some (Value.int .i64 n)) ?_, trivial⟩ (fun w' H => ?_)
      · simp [okI, hop, h1, hq2]
      · simp [argsN, hop]
      · rw [shape1 hop]; exact H
  repeat' (first | refine g_pv rfl rfl ?_ | refine g_nil ?_ | refine gq_then ?_ | refine gc_seq ?_ | refine gc_region ?_)
  refine gc_condC rfl (fun c2 => ?_) (fun c2 => ?_)
  · have hop : x.op = 2 := beq_iff_eq.1 c2
    repeat' (refine gc_seq ?_)
    refine gc_draw [[(b3, .cells ⟨x.cells⟩ 43 (0, 0))], [(b2, .cells ⟨j.cells⟩ 59 (0, 0))]] [_] rfl List.perm_append_comm ?_
    (refine aP 0 rfl rfl ?_); (refine aL 1 0 rfl wanted_none rfl rfl rfl rfl rfl ?_); (refine aP 2 rfl rfl ?_); (refine aL 3 0 rfl wanted_none rfl rfl rfl rfl rfl ?_); (refine aP 4 rfl rfl ?_); (refine aL 5 0 rfl wanted_none rfl rfl rfl rfl rfl ?_); (refine aP 6 rfl rfl ?_); (refine aL 7 0 rfl wanted_none rfl rfl rfl rfl rfl ?_); (refine aP 8 rfl rfl ?_)
    refine aO 9 rfl (fun K hK => ?_)
    refine g_st 0 rfl rfl rfl rfl rfl rfl rfl ?_
    refine g_heap (R' := [[(b5, .cells ⟨[.int .i64 x.op, .int .i64 0, .int .i64 x.d, .int .i64 0, .int .u32 0, .int .i64 0, .int .u32 0, .int .i64 0, .int .i64 0, .int .i64 0, .bool false, .slice none 0 0]⟩ 43 (0, 0))], [(b3, .cells ⟨x.cells⟩ 43 (0, 0))], [(b2, .cells ⟨j.cells⟩ 59 (0, 0))]]) (fun w H => H) ?_
    refine g_nil ?_
    refine hK _ _ ⟨[_], List.perm_append_comm⟩ ?_
    (refine aP 10 rfl rfl ?_)
    refine aO 11 rfl (fun K hK => ?_)
    refine g_st 0 rfl rfl rfl rfl rfl rfl rfl ?_
    refine g_heap (R' := [[(b5, .cells ⟨[.int .i64 x.op, .int .i64 0, .int .i64 x.d, .int .i64 x.a.k, .int .u32 x.a.n, .int .i64 0, .int .u32 0, .int .i64 0, .int .i64 0, .int .i64 0, .bool false, .slice none 0 0]⟩ 43 (0, 0))], [(b3, .cells ⟨x.cells⟩ 43 (0, 0))], [(b2, .cells ⟨j.cells⟩ 59 (0, 0))]]) (fun w H => H) ?_
    refine g_nil ?_
    refine hK _ _ ⟨[_], List.perm_append_comm⟩ ?_
    (refine aP 12 rfl rfl ?_)
    refine aO 13 rfl (fun K hK => ?_)
    refine g_st 0 rfl rfl rfl rfl rfl rfl rfl ?_
    refine g_heap (R' := [[(b5, .cells ⟨[.int .i64 x.op, .int .i64 0, .int .i64 x.d, .int .i64 x.a.k, .int .u32 x.a.n, .int .i64 x.b.k, .int .u32 x.b.n, .int .i64 0, .int .i64 0, .int .i64 0, .bool false, .slice none 0 0]⟩ 43 (0, 0))], [(b3, .cells ⟨x.cells⟩ 43 (0, 0))], [(b2, .cells ⟨j.cells⟩ 59 (0, 0))]]) (fun w H => H) ?_
    refine g_nil ?_
    refine hK _ _ ⟨[_], List.perm_append_comm⟩ ?_
    (refine aP 14 rfl rfl ?_)
    refine aO 15 rfl (fun K hK => ?_)
    refine g_st 0 rfl rfl rfl rfl rfl rfl rfl ?_
    refine g_heap (R' := [[(b5, .cells ⟨[.int .i64 x.op, .int .i64 x.bin, .int .i64 x.d, .int .i64 x.a.k, .int .u32 x.a.n, .int .i64 x.b.k, .int .u32 x.b.n, .int .i64 0, .int .i64 0, .int .i64 0, .bool false, .slice none 0 0]⟩ 43 (0, 0))], [(b3, .cells ⟨x.cells⟩ 43 (0, 0))], [(b2, .cells ⟨j.cells⟩ 59 (0, 0))]]) (fun w H => H) ?_
    refine g_nil ?_
    refine hK _ _ ⟨[_], List.perm_append_comm⟩ ?_
    refine ga_nil (by kernel_rfl) ?_
    repeat' (first | refine g_pv rfl rfl ?_ | refine gq_then ?_ | refine gc_region ?_)
    refine g_case (t := 50) rfl (fun h3 => ?_) (fun h3 => ?_)
    rotate_left
    · have h3 : inB x.d j.f.te = false := h3
      repeat' (first | refine g_pv rfl rfl ?_ | refine g_nil ?_ | refine gq_block ?_ | refine g_no rfl rfl rfl rfl rfl ?_)
      refine gq_at true trivial ⟨rfl, rfl, rfl, congrArg (fun b => some (Value.bool b)) ?_, congrArg (fun n => some (Value.int .i64 n)) ?_, trivial⟩ (fun w' H => ?_)
      · simp [okI, hop, h3]
      · simp [argsN, hop]
      · rw [shape2 hop]; exact H
    have h3 : inB x.d j.f.te = true := h3
    repeat' (first | refine g_pv rfl rfl ?_ | refine g_ld 1 rfl rfl rfl rfl rfl rfl ?_ | refine g_ld 2 rfl rfl rfl rfl rfl rfl ?_ | refine g_yes rfl rfl rfl ?_)
    refine g_call rfl (Cl.of Tryz.func79 rfl rfl) rfl rfl (fun w' hE => arg_sp j x.a w' (hx.ok x.a (by simp)) hj.f.te) rfl ?_
    rintro q4 hq4
    have hq4 : argB j.f.te x.a = q4 := hq4.symm
    cases q4
    · -- no
      repeat' (first | refine g_pv rfl rfl ?_ | refine g_nil ?_ | refine gq_block ?_ | refine g_no rfl rfl rfl rfl rfl ?_)
      refine gq_at true trivial ⟨rfl, rfl, rfl, congrArg (fun b => some (Value.bool b)) ?_, congrArg (fun n => some (Value.int .i64 n)) ?_, trivial⟩ (fun w' H => ?_)
      · simp [okI, hop, h3, hq4]
      · simp [argsN, hop]
      · rw [shape2 hop]; exact H
    · -- yes
      repeat' (first | refine g_pv rfl rfl ?_ | refine g_ld 1 rfl rfl rfl rfl rfl rfl ?_ | refine g_ld 2 rfl rfl rfl rfl rfl rfl ?_ | refine g_yes rfl rfl rfl ?_)
      refine g_call rfl (Cl.of Tryz.func79 rfl rfl) rfl rfl (fun w' hE => arg_sp j x.b w' (hx.ok x.b (by simp)) hj.f.te) rfl ?_
      rintro q5 hq5
      have hq5 : argB j.f.te x.b = q5 := hq5.symm
      cases q5
      · -- no
        repeat' (first | refine g_pv rfl rfl ?_ | refine g_nil ?_ | refine gq_block ?_ | refine g_no rfl rfl rfl rfl rfl ?_)
        refine gq_at true trivial ⟨rfl, rfl, rfl, congrArg (fun b => some (Value.bool b)) ?_, congrArg (fun n => some (Value.int .i64 n)) ?_, trivial⟩ (fun w' H => ?_)
        · simp [okI, hop, h3, hq4, hq5]
        · simp [argsN, hop]
        · rw [shape2 hop]; exact H
      · -- yes
        repeat' (first | refine g_pv rfl rfl ?_ | refine g_ld 1 rfl rfl rfl rfl rfl rfl ?_ | refine g_yes rfl rfl rfl ?_)
        refine g_call rfl (Cl.of Tryz.func61 rfl rfl) rfl rfl (fun w' hE => name_sp x.bin w') rfl ?_
        rintro _ rfl
        repeat' (refine g_yes rfl rfl rfl ?_)
        refine g_p (p_neT rfl rfl rfl) rfl ?_
        repeat' (first | refine g_pv rfl rfl ?_ | refine g_nil ?_ | refine gq_block ?_)
        refine gq_at true trivial ⟨rfl, rfl, rfl, congrArg (fun b => some (Value.bool b)) ?_, congrArg (fun n => some (Value.int .i64 n)) ?_, trivial⟩ (fun w' H => ?_)
        · simp [okI, hop, h3, hq4, hq5]
        · simp [argsN, hop]
        · rw [shape2 hop]; exact H
  repeat' (first | refine g_pv rfl rfl ?_ | refine g_nil ?_ | refine gq_then ?_ | refine gc_seq ?_ | refine gc_region ?_)
  refine gc_condC rfl (fun c3 => ?_) (fun c3 => ?_)
  · have hop : x.op = 3 := beq_iff_eq.1 c3
    repeat' (refine gc_seq ?_)
    refine gc_draw [[(b3, .cells ⟨x.cells⟩ 43 (0, 0))], [(b2, .cells ⟨j.cells⟩ 59 (0, 0))]] [_] rfl List.perm_append_comm ?_
    (refine aP 0 rfl rfl ?_); (refine aL 1 0 rfl wanted_none rfl rfl rfl rfl rfl ?_); (refine aP 2 rfl rfl ?_); (refine aL 3 0 rfl wanted_none rfl rfl rfl rfl rfl ?_); (refine aP 4 rfl rfl ?_); (refine aL 5 0 rfl wanted_none rfl rfl rfl rfl rfl ?_); (refine aP 6 rfl rfl ?_)
    refine aO 7 rfl (fun K hK => ?_)
    refine g_st 0 rfl rfl rfl rfl rfl rfl rfl ?_
    refine g_heap (R' := [[(b5, .cells ⟨[.int .i64 x.op, .int .i64 0, .int .i64 x.d, .int .i64 0, .int .u32 0, .int .i64 0, .int .u32 0, .int .i64 0, .int .i64 0, .int .i64 0, .bool false, .slice none 0 0]⟩ 43 (0, 0))], [(b3, .cells ⟨x.cells⟩ 43 (0, 0))], [(b2, .cells ⟨j.cells⟩ 59 (0, 0))]]) (fun w H => H) ?_
    refine g_nil ?_
    refine hK _ _ ⟨[_], List.perm_append_comm⟩ ?_
    (refine aP 8 rfl rfl ?_)
    refine aO 9 rfl (fun K hK => ?_)
    refine g_st 0 rfl rfl rfl rfl rfl rfl rfl ?_
    refine g_heap (R' := [[(b5, .cells ⟨[.int .i64 x.op, .int .i64 0, .int .i64 x.d, .int .i64 0, .int .u32 0, .int .i64 0, .int .u32 0, .int .i64 x.n, .int .i64 0, .int .i64 0, .bool false, .slice none 0 0]⟩ 43 (0, 0))], [(b3, .cells ⟨x.cells⟩ 43 (0, 0))], [(b2, .cells ⟨j.cells⟩ 59 (0, 0))]]) (fun w H => H) ?_
    refine g_nil ?_
    refine hK _ _ ⟨[_], List.perm_append_comm⟩ ?_
    (refine aP 10 rfl rfl ?_)
    refine aO 11 rfl (fun K hK => ?_)
    refine g_st 0 rfl rfl rfl rfl rfl rfl rfl ?_
    refine g_heap (R' := [[(b5, .cells ⟨[.int .i64 x.op, .int .i64 0, .int .i64 x.d, .int .i64 0, .int .u32 0, .int .i64 0, .int .u32 0, .int .i64 x.n, .int .i64 x.off, .int .i64 0, .bool false, .slice none 0 0]⟩ 43 (0, 0))], [(b3, .cells ⟨x.cells⟩ 43 (0, 0))], [(b2, .cells ⟨j.cells⟩ 59 (0, 0))]]) (fun w H => H) ?_
    refine g_nil ?_
    refine hK _ _ ⟨[_], List.perm_append_comm⟩ ?_
    refine ga_nil (by kernel_rfl) ?_
    repeat' (refine gq_then ?_)
    refine gc_draw [[(b5, .cells ⟨Ins.cells { op := x.op, bin := 0, d := x.d, a := ⟨0, 0⟩, b := ⟨0, 0⟩, n := x.n, off := x.off, width := 0, signed := false, args := [], aA := none, aC := 0 }⟩ 43 (0, 0))], [(b3, .cells ⟨x.cells⟩ 43 (0, 0))], [(b2, .cells ⟨j.cells⟩ 59 (0, 0))]] [] rfl (List.Perm.of_eq rfl) ?_
    (refine aP 0 rfl rfl ?_); (refine aP 1 rfl rfl ?_)
    refine ga_case (t := 80) rfl (fun h1 => ?_) (fun h1 => ?_)
    rotate_left
    · have h1 : inB x.d j.f.te = false := h1
      (refine aN 2 rfl rfl rfl rfl rfl ?_); (refine aN 3 rfl rfl rfl rfl rfl ?_); (refine aN 4 rfl rfl rfl rfl rfl ?_); (refine aN 5 rfl rfl rfl rfl rfl ?_); (refine aN 6 rfl rfl rfl rfl rfl ?_); (refine aN 7 rfl rfl rfl rfl rfl ?_); (refine aN 8 rfl rfl rfl rfl rfl ?_); (refine aP 9 rfl rfl ?_); (refine aP 10 rfl rfl ?_); (refine aN 11 rfl rfl rfl rfl rfl ?_); (refine aN 12 rfl rfl rfl rfl rfl ?_); (refine aN 13 rfl rfl rfl rfl rfl ?_); (refine aN 14 rfl rfl rfl rfl rfl ?_); (refine aN 15 rfl rfl rfl rfl rfl ?_); (refine aN 16 rfl rfl rfl rfl rfl ?_); (refine aN 17 rfl rfl rfl rfl rfl ?_); (refine aN 18 rfl rfl rfl rfl rfl ?_); (refine aN 19 rfl rfl rfl rfl rfl ?_); (refine aN 20 rfl rfl rfl rfl rfl ?_); (refine aN 21 rfl rfl rfl rfl rfl ?_); (refine aN 22 rfl rfl rfl rfl rfl ?_); (refine aP 23 rfl rfl ?_); (refine aP 24 rfl rfl ?_)
      refine ga_nil (by kernel_rfl) ?_
      repeat' (refine gq_block ?_)
      refine gq_at true trivial ⟨rfl, rfl, rfl, congrArg (fun b => some (Value.bool b)) ?_, congrArg (fun n => some (Value.int .i64 n)) ?_, trivial⟩ (fun w' H => ?_)
      · simp [okI, hop, h1]
      · simp [argsN, hop]
      · rw [shape3 hop]; exact H
    have h1 : inB x.d j.f.te = true := h1
    (refine aY 2 rfl rfl rfl rfl rfl ?_); (refine aL 3 1 rfl (wanted_yes rfl rfl rfl) rfl rfl rfl rfl rfl ?_); (refine aY 4 rfl rfl rfl rfl rfl ?_); (refine aY 5 rfl rfl rfl rfl rfl ?_); (refine aL 6 2 rfl (wanted_yes rfl rfl rfl) rfl rfl rfl rfl rfl ?_); (refine aY 7 rfl rfl rfl rfl rfl ?_)
    refine aO 8 rfl (fun K hK => ?_)
    refine g_yes rfl rfl rfl ?_
    refine g_call rfl (Cl.of Tryz.func23 rfl rfl) rfl rfl (fun w' hE => within_sp _ _ w') rfl (fun _ _ => ?_)
    refine g_nil ?_
    refine hK _ _ ⟨[], List.Perm.of_eq rfl⟩ ?_
    (refine aP 9 rfl rfl ?_); (refine aP 10 rfl rfl ?_)
    refine ga_case (t := 89) rfl (fun h2 => ?_) (fun h2 => ?_)
    rotate_left
    · have h2 : inB x.n j.f.slots.length = false := h2
      (refine aN 11 rfl rfl rfl rfl rfl ?_); (refine aN 12 rfl rfl rfl rfl rfl ?_); (refine aN 13 rfl rfl rfl rfl rfl ?_); (refine aN 14 rfl rfl rfl rfl rfl ?_); (refine aN 15 rfl rfl rfl rfl rfl ?_); (refine aN 16 rfl rfl rfl rfl rfl ?_); (refine aN 17 rfl rfl rfl rfl rfl ?_); (refine aN 18 rfl rfl rfl rfl rfl ?_); (refine aN 19 rfl rfl rfl rfl rfl ?_); (refine aN 20 rfl rfl rfl rfl rfl ?_); (refine aN 21 rfl rfl rfl rfl rfl ?_); (refine aN 22 rfl rfl rfl rfl rfl ?_); (refine aP 23 rfl rfl ?_); (refine aP 24 rfl rfl ?_)
      refine ga_nil (by kernel_rfl) ?_
      repeat' (refine gq_block ?_)
      refine gq_at true trivial ⟨rfl, rfl, rfl, congrArg (fun b => some (Value.bool b)) ?_, congrArg (fun n => some (Value.int .i64 n)) ?_, trivial⟩ (fun w' H => ?_)
      · simp [okI, hop, h1, h2]
      · simp [argsN, hop]
      · rw [shape3 hop]; exact H
    have h2 : inB x.n j.f.slots.length = true := h2
    have hb2 : 0 ≤ x.n ∧ x.n < j.f.slots.length := by simpa [inB] using h2
    have hlx : j.f.slots[x.n.toNat]? = some (j.f.slots[x.n.toNat]'(by omega)) := List.getElem?_eq_getElem (by omega)
    generalize j.f.slots[x.n.toNat]'(by omega) = q at hlx
    obtain ⟨bb, oo, hA, hc⟩ := hj.f.slots x.n.toNat _ hlx
    (refine aY 11 rfl rfl rfl rfl rfl ?_); (refine aL 12 1 rfl (wanted_yes rfl rfl rfl) rfl rfl rfl rfl rfl ?_); (refine aY 13 rfl rfl rfl rfl rfl ?_); (refine aY 14 rfl rfl rfl rfl rfl ?_); (refine aL 15 2 rfl (wanted_yes rfl rfl rfl) rfl rfl rfl rfl rfl ?_); (refine aY 16 rfl rfl rfl rfl rfl ?_); (refine aL 17 1 rfl (wanted_yes rfl rfl rfl) rfl rfl rfl rfl rfl ?_)
    refine ga_py 18 (by repeat first | exact NoP.sp | apply NoP.then | apply NoP.block) rfl rfl rfl rfl (p_ix (bx := bb) (o := oo) (by show some (Value.slice j.f.sA _ _) = _; rw [hA]) rfl rfl rfl hb2.1 hb2.2) rfl (by kernel_rfl) (by kernel_rfl) (by kernel_rfl) ?_
    (refine aY 19 rfl rfl rfl rfl rfl ?_)
    refine ga_ldO 20 (cs := [.int .i64 q.size]) (by repeat first | exact NoP.sp | apply NoP.then | apply NoP.block) rfl (wanted_yes rfl rfl rfl) rfl rfl rfl rfl (fun k u hk => ?_) rfl (by kernel_rfl) (by kernel_rfl) (by kernel_rfl) ?_
    · have hk0 : k = 0 := by have := (List.getElem?_eq_some_iff.1 hk).1; simp at this; omega
      subst hk0
      simp only [List.getElem?_cons_zero, Option.some.injEq] at hk; subst hk
      exact (old_le0 _ w).cell (hc 0 _ rfl)
    (refine aY 21 rfl rfl rfl rfl rfl ?_)
    refine aO 22 rfl (fun K hK => ?_)
    refine g_yes rfl rfl rfl ?_
    refine g_call rfl (Cl.of Tryz.func23 rfl rfl) rfl rfl (fun w' hE => within_sp _ _ w') rfl (fun _ _ => ?_)
    refine g_nil ?_
    refine hK _ _ ⟨[], List.Perm.of_eq rfl⟩ ?_
    (refine aP 23 rfl rfl ?_); (refine aP 24 rfl rfl ?_)
    refine ga_nil (by kernel_rfl) ?_
    repeat' (refine gq_block ?_)
    refine gq_at true trivial ⟨rfl, rfl, rfl, congrArg (fun b => some (Value.bool b)) ?_, congrArg (fun n => some (Value.int .i64 n)) ?_, trivial⟩ (fun w' H => ?_)
    · show inB x.off (IntKind.i64.wrap (q.size + 1)) = _; simp [okI, hop, h1, h2, hlx]
    · simp [argsN, hop]
    · rw [shape3 hop]; exact H
  repeat' (first | refine g_pv rfl rfl ?_ | refine g_nil ?_ | refine gq_then ?_ | refine gc_seq ?_ | refine gc_region ?_)
  refine gc_condC rfl (fun c4 => ?_) (fun c4 => ?_)
  · have hop : x.op = 4 := beq_iff_eq.1 c4
    repeat' (refine gc_seq ?_)
    refine gc_draw [[(b3, .cells ⟨x.cells⟩ 43 (0, 0))], [(b2, .cells ⟨j.cells⟩ 59 (0, 0))]] [_] rfl List.perm_append_comm ?_
    (refine aP 0 rfl rfl ?_); (refine aL 1 0 rfl wanted_none rfl rfl rfl rfl rfl ?_); (refine aP 2 rfl rfl ?_); (refine aL 3 0 rfl wanted_none rfl rfl rfl rfl rfl ?_); (refine aP 4 rfl rfl ?_); (refine aL 5 0 rfl wanted_none rfl rfl rfl rfl rfl ?_); (refine aP 6 rfl rfl ?_)
    refine aO 7 rfl (fun K hK => ?_)
    refine g_st 0 rfl rfl rfl rfl rfl rfl rfl ?_
    refine g_heap (R' := [[(b5, .cells ⟨[.int .i64 x.op, .int .i64 0, .int .i64 x.d, .int .i64 0, .int .u32 0, .int .i64 0, .int .u32 0, .int .i64 0, .int .i64 0, .int .i64 0, .bool false, .slice none 0 0]⟩ 43 (0, 0))], [(b3, .cells ⟨x.cells⟩ 43 (0, 0))], [(b2, .cells ⟨j.cells⟩ 59 (0, 0))]]) (fun w H => H) ?_
    refine g_nil ?_
    refine hK _ _ ⟨[_], List.perm_append_comm⟩ ?_
    (refine aP 8 rfl rfl ?_)
    refine aO 9 rfl (fun K hK => ?_)
    refine g_st 0 rfl rfl rfl rfl rfl rfl rfl ?_
    refine g_heap (R' := [[(b5, .cells ⟨[.int .i64 x.op, .int .i64 0, .int .i64 x.d, .int .i64 0, .int .u32 0, .int .i64 0, .int .u32 0, .int .i64 x.n, .int .i64 0, .int .i64 0, .bool false, .slice none 0 0]⟩ 43 (0, 0))], [(b3, .cells ⟨x.cells⟩ 43 (0, 0))], [(b2, .cells ⟨j.cells⟩ 59 (0, 0))]]) (fun w H => H) ?_
    refine g_nil ?_
    refine hK _ _ ⟨[_], List.perm_append_comm⟩ ?_
    (refine aP 10 rfl rfl ?_)
    refine aO 11 rfl (fun K hK => ?_)
    refine g_st 0 rfl rfl rfl rfl rfl rfl rfl ?_
    refine g_heap (R' := [[(b5, .cells ⟨[.int .i64 x.op, .int .i64 0, .int .i64 x.d, .int .i64 0, .int .u32 0, .int .i64 0, .int .u32 0, .int .i64 x.n, .int .i64 x.off, .int .i64 0, .bool false, .slice none 0 0]⟩ 43 (0, 0))], [(b3, .cells ⟨x.cells⟩ 43 (0, 0))], [(b2, .cells ⟨j.cells⟩ 59 (0, 0))]]) (fun w H => H) ?_
    refine g_nil ?_
    refine hK _ _ ⟨[_], List.perm_append_comm⟩ ?_
    refine ga_nil (by kernel_rfl) ?_
    repeat' (refine gq_then ?_)
    refine gc_draw [[(b5, .cells ⟨Ins.cells { op := x.op, bin := 0, d := x.d, a := ⟨0, 0⟩, b := ⟨0, 0⟩, n := x.n, off := x.off, width := 0, signed := false, args := [], aA := none, aC := 0 }⟩ 43 (0, 0))], [(b3, .cells ⟨x.cells⟩ 43 (0, 0))], [(b2, .cells ⟨j.cells⟩ 59 (0, 0))]] [] rfl (List.Perm.of_eq rfl) ?_
    (refine aP 0 rfl rfl ?_); (refine aP 1 rfl rfl ?_)
    refine ga_case (t := 115) rfl (fun h1 => ?_) (fun h1 => ?_)
    rotate_left
    · have h1 : inB x.d j.f.te = false := h1
      (refine aN 2 rfl rfl rfl rfl rfl ?_); (refine aN 3 rfl rfl rfl rfl rfl ?_); (refine aN 4 rfl rfl rfl rfl rfl ?_); (refine aN 5 rfl rfl rfl rfl rfl ?_); (refine aN 6 rfl rfl rfl rfl rfl ?_); (refine aN 7 rfl rfl rfl rfl rfl ?_); (refine aN 8 rfl rfl rfl rfl rfl ?_); (refine aP 9 rfl rfl ?_); (refine aP 10 rfl rfl ?_); (refine aN 11 rfl rfl rfl rfl rfl ?_); (refine aN 12 rfl rfl rfl rfl rfl ?_); (refine aN 13 rfl rfl rfl rfl rfl ?_); (refine aN 14 rfl rfl rfl rfl rfl ?_); (refine aN 15 rfl rfl rfl rfl rfl ?_); (refine aN 16 rfl rfl rfl rfl rfl ?_); (refine aN 17 rfl rfl rfl rfl rfl ?_); (refine aN 18 rfl rfl rfl rfl rfl ?_); (refine aN 19 rfl rfl rfl rfl rfl ?_); (refine aN 20 rfl rfl rfl rfl rfl ?_); (refine aN 21 rfl rfl rfl rfl rfl ?_); (refine aN 22 rfl rfl rfl rfl rfl ?_); (refine aP 23 rfl rfl ?_); (refine aP 24 rfl rfl ?_)
      refine ga_nil (by kernel_rfl) ?_
      repeat' (refine gq_block ?_)
      refine gq_at true trivial ⟨rfl, rfl, rfl, congrArg (fun b => some (Value.bool b)) ?_, congrArg (fun n => some (Value.int .i64 n)) ?_, trivial⟩ (fun w' H => ?_)
      · simp [okI, hop, h1]
      · simp [argsN, hop]
      · rw [shape4 hop]; exact H
    have h1 : inB x.d j.f.te = true := h1
    (refine aY 2 rfl rfl rfl rfl rfl ?_); (refine aL 3 1 rfl (wanted_yes rfl rfl rfl) rfl rfl rfl rfl rfl ?_); (refine aY 4 rfl rfl rfl rfl rfl ?_); (refine aY 5 rfl rfl rfl rfl rfl ?_); (refine aL 6 2 rfl (wanted_yes rfl rfl rfl) rfl rfl rfl rfl rfl ?_); (refine aY 7 rfl rfl rfl rfl rfl ?_)
    refine aO 8 rfl (fun K hK => ?_)
    refine g_yes rfl rfl rfl ?_
    refine g_call rfl (Cl.of Tryz.func23 rfl rfl) rfl rfl (fun w' hE => within_sp _ _ w') rfl (fun _ _ => ?_)
    refine g_nil ?_
    refine hK _ _ ⟨[], List.Perm.of_eq rfl⟩ ?_
    (refine aP 9 rfl rfl ?_); (refine aP 10 rfl rfl ?_)
    refine ga_case (t := 124) rfl (fun h2 => ?_) (fun h2 => ?_)
    rotate_left
    · have h2 : inB x.n j.p.obs.length = false := h2
      (refine aN 11 rfl rfl rfl rfl rfl ?_); (refine aN 12 rfl rfl rfl rfl rfl ?_); (refine aN 13 rfl rfl rfl rfl rfl ?_); (refine aN 14 rfl rfl rfl rfl rfl ?_); (refine aN 15 rfl rfl rfl rfl rfl ?_); (refine aN 16 rfl rfl rfl rfl rfl ?_); (refine aN 17 rfl rfl rfl rfl rfl ?_); (refine aN 18 rfl rfl rfl rfl rfl ?_); (refine aN 19 rfl rfl rfl rfl rfl ?_); (refine aN 20 rfl rfl rfl rfl rfl ?_); (refine aN 21 rfl rfl rfl rfl rfl ?_); (refine aN 22 rfl rfl rfl rfl rfl ?_); (refine aP 23 rfl rfl ?_); (refine aP 24 rfl rfl ?_)
      refine ga_nil (by kernel_rfl) ?_
      repeat' (refine gq_block ?_)
      refine gq_at true trivial ⟨rfl, rfl, rfl, congrArg (fun b => some (Value.bool b)) ?_, congrArg (fun n => some (Value.int .i64 n)) ?_, trivial⟩ (fun w' H => ?_)
      · simp [okI, hop, h1, h2]
      · simp [argsN, hop]
      · rw [shape4 hop]; exact H
    have h2 : inB x.n j.p.obs.length = true := h2
    have hb2 : 0 ≤ x.n ∧ x.n < j.p.obs.length := by simpa [inB] using h2
    have hlx : j.p.obs[x.n.toNat]? = some (j.p.obs[x.n.toNat]'(by omega)) := List.getElem?_eq_getElem (by omega)
    generalize j.p.obs[x.n.toNat]'(by omega) = q at hlx
    obtain ⟨bb, oo, hA, hc⟩ := hj.p.obs x.n.toNat _ hlx
    (refine aY 11 rfl rfl rfl rfl rfl ?_); (refine aL 12 1 rfl (wanted_yes rfl rfl rfl) rfl rfl rfl rfl rfl ?_); (refine aY 13 rfl rfl rfl rfl rfl ?_); (refine aY 14 rfl rfl rfl rfl rfl ?_); (refine aL 15 2 rfl (wanted_yes rfl rfl rfl) rfl rfl rfl rfl rfl ?_); (refine aY 16 rfl rfl rfl rfl rfl ?_); (refine aL 17 1 rfl (wanted_yes rfl rfl rfl) rfl rfl rfl rfl rfl ?_)
    refine ga_py 18 (by repeat first | exact NoP.sp | apply NoP.then | apply NoP.block) rfl rfl rfl rfl (p_ix (bx := bb) (o := oo) (by show some (Value.slice j.p.oA _ _) = _; rw [hA]) rfl rfl rfl hb2.1 hb2.2) rfl (by kernel_rfl) (by kernel_rfl) (by kernel_rfl) ?_
    (refine aY 19 rfl rfl rfl rfl rfl ?_)
    refine ga_ldO 20 (cs := [.int .i64 q.size]) (by repeat first | exact NoP.sp | apply NoP.then | apply NoP.block) rfl (wanted_yes rfl rfl rfl) rfl rfl rfl rfl (fun k u hk => ?_) rfl (by kernel_rfl) (by kernel_rfl) (by kernel_rfl) ?_
    · have hk0 : k = 0 := by have := (List.getElem?_eq_some_iff.1 hk).1; simp at this; omega
      subst hk0
      simp only [List.getElem?_cons_zero, Option.some.injEq] at hk; subst hk
      exact (old_le0 _ w).cell (hc 1 _ rfl)
    (refine aY 21 rfl rfl rfl rfl rfl ?_)
    refine aO 22 rfl (fun K hK => ?_)
    refine g_yes rfl rfl rfl ?_
    refine g_call rfl (Cl.of Tryz.func23 rfl rfl) rfl rfl (fun w' hE => within_sp _ _ w') rfl (fun _ _ => ?_)
    refine g_nil ?_
    refine hK _ _ ⟨[], List.Perm.of_eq rfl⟩ ?_
    (refine aP 23 rfl rfl ?_); (refine aP 24 rfl rfl ?_)
    refine ga_nil (by kernel_rfl) ?_
    repeat' (refine gq_block ?_)
    refine gq_at true trivial ⟨rfl, rfl, rfl, congrArg (fun b => some (Value.bool b)) ?_, congrArg (fun n => some (Value.int .i64 n)) ?_, trivial⟩ (fun w' H => ?_)
    · show inB x.off (IntKind.i64.wrap (q.size + 1)) = _; simp [okI, hop, h1, h2, hlx]
    · simp [argsN, hop]
    · rw [shape4 hop]; exact H
  repeat' (first | refine g_pv rfl rfl ?_ | refine g_nil ?_ | refine gq_then ?_ | refine gc_seq ?_ | refine gc_region ?_)
  refine gc_condC rfl (fun c5 => ?_) (fun c5 => ?_)
  · have hop : x.op = 5 := beq_iff_eq.1 c5
    repeat' (refine gc_seq ?_)
    refine gc_draw [[(b3, .cells ⟨x.cells⟩ 43 (0, 0))], [(b2, .cells ⟨j.cells⟩ 59 (0, 0))]] [_] rfl List.perm_append_comm ?_
    (refine aP 0 rfl rfl ?_); (refine aL 1 0 rfl wanted_none rfl rfl rfl rfl rfl ?_); (refine aP 2 rfl rfl ?_); (refine aL 3 0 rfl wanted_none rfl rfl rfl rfl rfl ?_); (refine aP 4 rfl rfl ?_); (refine aL 5 0 rfl wanted_none rfl rfl rfl rfl rfl ?_); (refine aP 6 rfl rfl ?_); (refine aL 7 0 rfl wanted_none rfl rfl rfl rfl rfl ?_); (refine aP 8 rfl rfl ?_); (refine aL 9 0 rfl wanted_none rfl rfl rfl rfl rfl ?_); (refine aP 10 rfl rfl ?_)
    refine aO 11 rfl (fun K hK => ?_)
    refine g_st 0 rfl rfl rfl rfl rfl rfl rfl ?_
    refine g_heap (R' := [[(b5, .cells ⟨[.int .i64 x.op, .int .i64 0, .int .i64 x.d, .int .i64 0, .int .u32 0, .int .i64 0, .int .u32 0, .int .i64 0, .int .i64 0, .int .i64 0, .bool false, .slice none 0 0]⟩ 43 (0, 0))], [(b3, .cells ⟨x.cells⟩ 43 (0, 0))], [(b2, .cells ⟨j.cells⟩ 59 (0, 0))]]) (fun w H => H) ?_
    refine g_nil ?_
    refine hK _ _ ⟨[_], List.perm_append_comm⟩ ?_
    (refine aP 12 rfl rfl ?_)
    refine aO 13 rfl (fun K hK => ?_)
    refine g_st 0 rfl rfl rfl rfl rfl rfl rfl ?_
    refine g_heap (R' := [[(b5, .cells ⟨[.int .i64 x.op, .int .i64 0, .int .i64 x.d, .int .i64 x.a.k, .int .u32 x.a.n, .int .i64 0, .int .u32 0, .int .i64 0, .int .i64 0, .int .i64 0, .bool false, .slice none 0 0]⟩ 43 (0, 0))], [(b3, .cells ⟨x.cells⟩ 43 (0, 0))], [(b2, .cells ⟨j.cells⟩ 59 (0, 0))]]) (fun w H => H) ?_
    refine g_nil ?_
    refine hK _ _ ⟨[_], List.perm_append_comm⟩ ?_
    (refine aP 14 rfl rfl ?_)
    refine aO 15 rfl (fun K hK => ?_)
    refine g_st 0 rfl rfl rfl rfl rfl rfl rfl ?_
    refine g_heap (R' := [[(b5, .cells ⟨[.int .i64 x.op, .int .i64 0, .int .i64 x.d, .int .i64 x.a.k, .int .u32 x.a.n, .int .i64 0, .int .u32 0, .int .i64 0, .int .i64 x.off, .int .i64 0, .bool false, .slice none 0 0]⟩ 43 (0, 0))], [(b3, .cells ⟨x.cells⟩ 43 (0, 0))], [(b2, .cells ⟨j.cells⟩ 59 (0, 0))]]) (fun w H => H) ?_
    refine g_nil ?_
    refine hK _ _ ⟨[_], List.perm_append_comm⟩ ?_
    (refine aP 16 rfl rfl ?_)
    refine aO 17 rfl (fun K hK => ?_)
    refine g_st 0 rfl rfl rfl rfl rfl rfl rfl ?_
    refine g_heap (R' := [[(b5, .cells ⟨[.int .i64 x.op, .int .i64 0, .int .i64 x.d, .int .i64 x.a.k, .int .u32 x.a.n, .int .i64 0, .int .u32 0, .int .i64 0, .int .i64 x.off, .int .i64 x.width, .bool false, .slice none 0 0]⟩ 43 (0, 0))], [(b3, .cells ⟨x.cells⟩ 43 (0, 0))], [(b2, .cells ⟨j.cells⟩ 59 (0, 0))]]) (fun w H => H) ?_
    refine g_nil ?_
    refine hK _ _ ⟨[_], List.perm_append_comm⟩ ?_
    (refine aP 18 rfl rfl ?_)
    refine aO 19 rfl (fun K hK => ?_)
    refine g_st 0 rfl rfl rfl rfl rfl rfl rfl ?_
    refine g_heap (R' := [[(b5, .cells ⟨[.int .i64 x.op, .int .i64 0, .int .i64 x.d, .int .i64 x.a.k, .int .u32 x.a.n, .int .i64 0, .int .u32 0, .int .i64 0, .int .i64 x.off, .int .i64 x.width, .bool x.signed, .slice none 0 0]⟩ 43 (0, 0))], [(b3, .cells ⟨x.cells⟩ 43 (0, 0))], [(b2, .cells ⟨j.cells⟩ 59 (0, 0))]]) (fun w H => H) ?_
    refine g_nil ?_
    refine hK _ _ ⟨[_], List.perm_append_comm⟩ ?_
    refine ga_nil (by kernel_rfl) ?_
    repeat' (first | refine g_pv rfl rfl ?_ | refine gq_then ?_ | refine gc_region ?_)
    refine g_case (t := 156) rfl (fun h8 => ?_) (fun h8 => ?_)
    rotate_left
    · have h8 : inB x.d j.f.te = false := h8
      repeat' (first | refine g_pv rfl rfl ?_ | refine g_nil ?_ | refine gq_block ?_ | refine g_no rfl rfl rfl rfl rfl ?_)
      refine gq_at true trivial ⟨rfl, rfl, rfl, congrArg (fun b => some (Value.bool b)) ?_, congrArg (fun n => some (Value.int .i64 n)) ?_, trivial⟩ (fun w' H => ?_)
      · simp [okI, hop, h8]
      · simp [argsN, hop]
      · rw [shape5 hop]; exact H
    have h8 : inB x.d j.f.te = true := h8
    repeat' (first | refine g_pv rfl rfl ?_ | refine g_ld 1 rfl rfl rfl rfl rfl rfl ?_ | refine g_ld 2 rfl rfl rfl rfl rfl rfl ?_ | refine g_yes rfl rfl rfl ?_)
    refine g_call rfl (Cl.of Tryz.func79 rfl rfl) rfl rfl (fun w' hE => arg_sp j x.a w' (hx.ok x.a (by simp)) hj.f.te) rfl ?_
    rintro q9 hq9
    have hq9 : argB j.f.te x.a = q9 := hq9.symm
    cases q9
    · -- no
      repeat' (first | refine g_pv rfl rfl ?_ | refine g_nil ?_ | refine gq_block ?_ | refine g_no rfl rfl rfl rfl rfl ?_)
      refine gq_at true trivial ⟨rfl, rfl, rfl, congrArg (fun b => some (Value.bool b)) ?_, congrArg (fun n => some (Value.int .i64 n)) ?_, trivial⟩ (fun w' H => ?_)
      · simp [okI, hop, h8, hq9]
      · simp [argsN, hop]
      · rw [shape5 hop]; exact H
    · -- yes
      repeat' (first | refine g_pv rfl rfl ?_ | refine g_ld 1 rfl rfl rfl rfl rfl rfl ?_ | refine g_yes rfl rfl rfl ?_)
      refine g_call rfl (Cl.of Tryz.func80 rfl rfl) rfl rfl (fun w' hE => offset_sp x w') rfl ?_
      rintro q10 hq10
      have hq10 : offB x = q10 := hq10.symm
      cases q10
      · -- no
        repeat' (first | refine g_pv rfl rfl ?_ | refine g_nil ?_ | refine gq_block ?_ | refine g_no rfl rfl rfl rfl rfl ?_)
        refine gq_at true trivial ⟨rfl, rfl, rfl, congrArg (fun b => some (Value.bool b)) ?_, congrArg (fun n => some (Value.int .i64 n)) ?_, trivial⟩ (fun w' H => ?_)
        · simp [okI, hop, h8, hq9, hq10]
        · simp [argsN, hop]
        · rw [shape5 hop]; exact H
      · -- yes
        repeat' (first | refine g_pv rfl rfl ?_ | refine g_ld 1 rfl rfl rfl rfl rfl rfl ?_ | refine g_yes rfl rfl rfl ?_)
        refine g_case (t := 170) rfl (fun h7 => ?_) (fun h7 => ?_)
        · -- below
          have h7 : decide (x.width < 4) = true := h7
          repeat' (first | refine g_pv rfl rfl ?_ | refine g_nil ?_ | refine gq_block ?_ | refine g_yes rfl rfl rfl ?_ | refine g_no rfl rfl rfl rfl rfl ?_)
          refine gq_at true trivial ⟨rfl, rfl, rfl, congrArg (fun b => some (Value.bool b)) ?_, congrArg (fun n => some (Value.int .i64 n)) ?_, trivial⟩ (fun w' H => ?_)
          · simp [okI, hop, h8, hq9, hq10, h7]
          · simp [argsN, hop]
          · rw [shape5 hop]; exact H
        · -- not
          have h7 : decide (x.width < 4) = false := h7
          repeat' (first | refine g_pv rfl rfl ?_ | refine g_ld 1 rfl rfl rfl rfl rfl rfl ?_ | refine g_nil ?_ | refine gq_block ?_ | refine g_yes rfl rfl rfl ?_)
          refine gq_at true trivial ⟨rfl, rfl, rfl, congrArg (fun b => some (Value.bool b)) ?_, congrArg (fun n => some (Value.int .i64 n)) ?_, trivial⟩ (fun w' H => ?_)
          · simp [okI, hop, h8, hq9, hq10, h7]
          · simp [argsN, hop]
          · rw [shape5 hop]; exact H
  repeat' (first | refine g_pv rfl rfl ?_ | refine g_nil ?_ | refine gq_then ?_ | refine gc_seq ?_ | refine gc_region ?_)
  refine gc_condC rfl (fun c6 => ?_) (fun c6 => ?_)
  · have hop : x.op = 6 := beq_iff_eq.1 c6
    repeat' (refine gc_seq ?_)
    refine gc_draw [[(b3, .cells ⟨x.cells⟩ 43 (0, 0))], [(b2, .cells ⟨j.cells⟩ 59 (0, 0))]] [_] rfl List.perm_append_comm ?_
    (refine aP 0 rfl rfl ?_); (refine aL 1 0 rfl wanted_none rfl rfl rfl rfl rfl ?_); (refine aP 2 rfl rfl ?_); (refine aL 3 0 rfl wanted_none rfl rfl rfl rfl rfl ?_); (refine aP 4 rfl rfl ?_); (refine aL 5 0 rfl wanted_none rfl rfl rfl rfl rfl ?_); (refine aP 6 rfl rfl ?_); (refine aL 7 0 rfl wanted_none rfl rfl rfl rfl rfl ?_); (refine aP 8 rfl rfl ?_)
    refine aO 9 rfl (fun K hK => ?_)
    refine g_st 0 rfl rfl rfl rfl rfl rfl rfl ?_
    refine g_heap (R' := [[(b5, .cells ⟨[.int .i64 x.op, .int .i64 0, .int .i64 (-1), .int .i64 x.a.k, .int .u32 x.a.n, .int .i64 0, .int .u32 0, .int .i64 0, .int .i64 0, .int .i64 0, .bool false, .slice none 0 0]⟩ 43 (0, 0))], [(b3, .cells ⟨x.cells⟩ 43 (0, 0))], [(b2, .cells ⟨j.cells⟩ 59 (0, 0))]]) (fun w H => H) ?_
    refine g_nil ?_
    refine hK _ _ ⟨[_], List.perm_append_comm⟩ ?_
    (refine aP 10 rfl rfl ?_)
    refine aO 11 rfl (fun K hK => ?_)
    refine g_st 0 rfl rfl rfl rfl rfl rfl rfl ?_
    refine g_heap (R' := [[(b5, .cells ⟨[.int .i64 x.op, .int .i64 0, .int .i64 (-1), .int .i64 x.a.k, .int .u32 x.a.n, .int .i64 x.b.k, .int .u32 x.b.n, .int .i64 0, .int .i64 0, .int .i64 0, .bool false, .slice none 0 0]⟩ 43 (0, 0))], [(b3, .cells ⟨x.cells⟩ 43 (0, 0))], [(b2, .cells ⟨j.cells⟩ 59 (0, 0))]]) (fun w H => H) ?_
    refine g_nil ?_
    refine hK _ _ ⟨[_], List.perm_append_comm⟩ ?_
    (refine aP 12 rfl rfl ?_)
    refine aO 13 rfl (fun K hK => ?_)
    refine g_st 0 rfl rfl rfl rfl rfl rfl rfl ?_
    refine g_heap (R' := [[(b5, .cells ⟨[.int .i64 x.op, .int .i64 0, .int .i64 (-1), .int .i64 x.a.k, .int .u32 x.a.n, .int .i64 x.b.k, .int .u32 x.b.n, .int .i64 0, .int .i64 x.off, .int .i64 0, .bool false, .slice none 0 0]⟩ 43 (0, 0))], [(b3, .cells ⟨x.cells⟩ 43 (0, 0))], [(b2, .cells ⟨j.cells⟩ 59 (0, 0))]]) (fun w H => H) ?_
    refine g_nil ?_
    refine hK _ _ ⟨[_], List.perm_append_comm⟩ ?_
    (refine aP 14 rfl rfl ?_)
    refine aO 15 rfl (fun K hK => ?_)
    refine g_st 0 rfl rfl rfl rfl rfl rfl rfl ?_
    refine g_heap (R' := [[(b5, .cells ⟨[.int .i64 x.op, .int .i64 0, .int .i64 (-1), .int .i64 x.a.k, .int .u32 x.a.n, .int .i64 x.b.k, .int .u32 x.b.n, .int .i64 0, .int .i64 x.off, .int .i64 x.width, .bool false, .slice none 0 0]⟩ 43 (0, 0))], [(b3, .cells ⟨x.cells⟩ 43 (0, 0))], [(b2, .cells ⟨j.cells⟩ 59 (0, 0))]]) (fun w H => H) ?_
    refine g_nil ?_
    refine hK _ _ ⟨[_], List.perm_append_comm⟩ ?_
    refine ga_nil (by kernel_rfl) ?_
    repeat' (first | refine g_pv rfl rfl ?_ | refine g_ld 1 rfl rfl rfl rfl rfl rfl ?_ | refine g_ld 2 rfl rfl rfl rfl rfl rfl ?_ | refine gq_then ?_ | refine gc_region ?_)
    refine g_call rfl (Cl.of Tryz.func79 rfl rfl) rfl rfl (fun w' hE => arg_sp j x.a w' (hx.ok x.a (by simp)) hj.f.te) rfl ?_
    rintro q11 hq11
    have hq11 : argB j.f.te x.a = q11 := hq11.symm
    cases q11
    · -- no
      repeat' (first | refine g_pv rfl rfl ?_ | refine g_nil ?_ | refine gq_block ?_ | refine g_no rfl rfl rfl rfl rfl ?_)
      refine gq_at true trivial ⟨rfl, rfl, rfl, congrArg (fun b => some (Value.bool b)) ?_, congrArg (fun n => some (Value.int .i64 n)) ?_, trivial⟩ (fun w' H => ?_)
      · simp [okI, hop, hq11]
      · simp [argsN, hop]
      · rw [shape6 hop]; exact H
    · -- yes
      repeat' (first | refine g_pv rfl rfl ?_ | refine g_ld 1 rfl rfl rfl rfl rfl rfl ?_ | refine g_ld 2 rfl rfl rfl rfl rfl rfl ?_ | refine g_yes rfl rfl rfl ?_)
      refine g_call rfl (Cl.of Tryz.func79 rfl rfl) rfl rfl (fun w' hE => arg_sp j x.b w' (hx.ok x.b (by simp)) hj.f.te) rfl ?_
      rintro q12 hq12
      have hq12 : argB j.f.te x.b = q12 := hq12.symm
      cases q12
      · -- no
        repeat' (first | refine g_pv rfl rfl ?_ | refine g_nil ?_ | refine gq_block ?_ | refine g_no rfl rfl rfl rfl rfl ?_)
        refine gq_at true trivial ⟨rfl, rfl, rfl, congrArg (fun b => some (Value.bool b)) ?_, congrArg (fun n => some (Value.int .i64 n)) ?_, trivial⟩ (fun w' H => ?_)
        · simp [okI, hop, hq11, hq12]
        · simp [argsN, hop]
        · rw [shape6 hop]; exact H
      · -- yes
        repeat' (first | refine g_pv rfl rfl ?_ | refine g_ld 1 rfl rfl rfl rfl rfl rfl ?_ | refine g_yes rfl rfl rfl ?_)
        refine g_call rfl (Cl.of Tryz.func80 rfl rfl) rfl rfl (fun w' hE => offset_sp x w') rfl ?_
        rintro q13 hq13
        have hq13 : offB x = q13 := hq13.symm
        cases q13
        · -- no
          repeat' (first | refine g_pv rfl rfl ?_ | refine g_nil ?_ | refine gq_block ?_)
          refine gq_at true trivial ⟨rfl, rfl, rfl, congrArg (fun b => some (Value.bool b)) ?_, congrArg (fun n => some (Value.int .i64 n)) ?_, trivial⟩ (fun w' H => ?_)
          · simp [okI, hop, hq11, hq12, hq13]
          · simp [argsN, hop]
          · rw [shape6 hop]; exact H
        · -- yes
          repeat' (first | refine g_pv rfl rfl ?_ | refine g_nil ?_ | refine gq_block ?_)
          repeat' (fail)
          refine gq_at true trivial ⟨rfl, rfl, rfl, congrArg (fun b => some (Value.bool b)) ?_, congrArg (fun n => some (Value.int .i64 n)) ?_, trivial⟩ (fun w' H => ?_)
          · simp [okI, hop, hq11, hq12, hq13]
          · simp [argsN, hop]
          · rw [shape6 hop]; exact H
  repeat' (first | refine g_pv rfl rfl ?_ | refine g_nil ?_ | refine gq_then ?_ | refine gc_seq ?_ | refine gc_region ?_)
  refine gc_condC rfl (fun c7 => ?_) (fun c7 => ?_)
  · have hop : x.op = 7 := beq_iff_eq.1 c7
    repeat' (refine gc_seq ?_)
    refine gc_draw [[(b3, .cells ⟨x.cells⟩ 43 (0, 0))], [(b2, .cells ⟨j.cells⟩ 59 (0, 0))]] [_] rfl List.perm_append_comm ?_
    (refine aP 0 rfl rfl ?_); (refine aL 1 0 rfl wanted_none rfl rfl rfl rfl rfl ?_); (refine aP 2 rfl rfl ?_); (refine aL 3 0 rfl wanted_none rfl rfl rfl rfl rfl ?_); (refine aP 4 rfl rfl ?_); (refine aL 5 0 rfl wanted_none rfl rfl rfl rfl rfl ?_); (refine aP 6 rfl rfl ?_); (refine aL 7 0 rfl wanted_none rfl rfl rfl rfl rfl ?_); (refine aP 8 rfl rfl ?_)
    refine aO 9 rfl (fun K hK => ?_)
    refine g_st 0 rfl rfl rfl rfl rfl rfl rfl ?_
    refine g_heap (R' := [[(b5, .cells ⟨[.int .i64 x.op, .int .i64 0, .int .i64 (-1), .int .i64 x.a.k, .int .u32 x.a.n, .int .i64 0, .int .u32 0, .int .i64 0, .int .i64 0, .int .i64 0, .bool false, .slice none 0 0]⟩ 43 (0, 0))], [(b3, .cells ⟨x.cells⟩ 43 (0, 0))], [(b2, .cells ⟨j.cells⟩ 59 (0, 0))]]) (fun w H => H) ?_
    refine g_nil ?_
    refine hK _ _ ⟨[_], List.perm_append_comm⟩ ?_
    (refine aP 10 rfl rfl ?_)
    refine aO 11 rfl (fun K hK => ?_)
    refine g_st 0 rfl rfl rfl rfl rfl rfl rfl ?_
    refine g_heap (R' := [[(b5, .cells ⟨[.int .i64 x.op, .int .i64 0, .int .i64 (-1), .int .i64 x.a.k, .int .u32 x.a.n, .int .i64 x.b.k, .int .u32 x.b.n, .int .i64 0, .int .i64 0, .int .i64 0, .bool false, .slice none 0 0]⟩ 43 (0, 0))], [(b3, .cells ⟨x.cells⟩ 43 (0, 0))], [(b2, .cells ⟨j.cells⟩ 59 (0, 0))]]) (fun w H => H) ?_
    refine g_nil ?_
    refine hK _ _ ⟨[_], List.perm_append_comm⟩ ?_
    (refine aP 12 rfl rfl ?_)
    refine aO 13 rfl (fun K hK => ?_)
    refine g_st 0 rfl rfl rfl rfl rfl rfl rfl ?_
    refine g_heap (R' := [[(b5, .cells ⟨[.int .i64 x.op, .int .i64 0, .int .i64 (-1), .int .i64 x.a.k, .int .u32 x.a.n, .int .i64 x.b.k, .int .u32 x.b.n, .int .i64 0, .int .i64 x.off, .int .i64 0, .bool false, .slice none 0 0]⟩ 43 (0, 0))], [(b3, .cells ⟨x.cells⟩ 43 (0, 0))], [(b2, .cells ⟨j.cells⟩ 59 (0, 0))]]) (fun w H => H) ?_
    refine g_nil ?_
    refine hK _ _ ⟨[_], List.perm_append_comm⟩ ?_
    (refine aP 14 rfl rfl ?_)
    refine aO 15 rfl (fun K hK => ?_)
    refine g_st 0 rfl rfl rfl rfl rfl rfl rfl ?_
    refine g_heap (R' := [[(b5, .cells ⟨[.int .i64 x.op, .int .i64 0, .int .i64 (-1), .int .i64 x.a.k, .int .u32 x.a.n, .int .i64 x.b.k, .int .u32 x.b.n, .int .i64 0, .int .i64 x.off, .int .i64 x.width, .bool false, .slice none 0 0]⟩ 43 (0, 0))], [(b3, .cells ⟨x.cells⟩ 43 (0, 0))], [(b2, .cells ⟨j.cells⟩ 59 (0, 0))]]) (fun w H => H) ?_
    refine g_nil ?_
    refine hK _ _ ⟨[_], List.perm_append_comm⟩ ?_
    refine ga_nil (by kernel_rfl) ?_
    repeat' (first | refine g_pv rfl rfl ?_ | refine g_ld 1 rfl rfl rfl rfl rfl rfl ?_ | refine g_ld 2 rfl rfl rfl rfl rfl rfl ?_ | refine gq_then ?_ | refine gc_region ?_)
    refine g_call rfl (Cl.of Tryz.func79 rfl rfl) rfl rfl (fun w' hE => arg_sp j x.a w' (hx.ok x.a (by simp)) hj.f.te) rfl ?_
    rintro q14 hq14
    have hq14 : argB j.f.te x.a = q14 := hq14.symm
    cases q14
    · -- no
      repeat' (first | refine g_pv rfl rfl ?_ | refine g_nil ?_ | refine gq_block ?_ | refine g_no rfl rfl rfl rfl rfl ?_)
      refine gq_at true trivial ⟨rfl, rfl, rfl, congrArg (fun b => some (Value.bool b)) ?_, congrArg (fun n => some (Value.int .i64 n)) ?_, trivial⟩ (fun w' H => ?_)
      · simp [okI, hop, hq14]
      · simp [argsN, hop]
      · rw [shape7 hop]; exact H
    · -- yes
      repeat' (first | refine g_pv rfl rfl ?_ | refine g_ld 1 rfl rfl rfl rfl rfl rfl ?_ | refine g_ld 2 rfl rfl rfl rfl rfl rfl ?_ | refine g_yes rfl rfl rfl ?_)
      refine g_call rfl (Cl.of Tryz.func79 rfl rfl) rfl rfl (fun w' hE => arg_sp j x.b w' (hx.ok x.b (by simp)) hj.f.te) rfl ?_
      rintro q15 hq15
      have hq15 : argB j.f.te x.b = q15 := hq15.symm
      cases q15
      · -- no
        repeat' (first | refine g_pv rfl rfl ?_ | refine g_nil ?_ | refine gq_block ?_ | refine g_no rfl rfl rfl rfl rfl ?_)
        refine gq_at true trivial ⟨rfl, rfl, rfl, congrArg (fun b => some (Value.bool b)) ?_, congrArg (fun n => some (Value.int .i64 n)) ?_, trivial⟩ (fun w' H => ?_)
        · simp [okI, hop, hq14, hq15]
        · simp [argsN, hop]
        · rw [shape7 hop]; exact H
      · -- yes
        repeat' (first | refine g_pv rfl rfl ?_ | refine g_ld 1 rfl rfl rfl rfl rfl rfl ?_ | refine g_yes rfl rfl rfl ?_)
        refine g_call rfl (Cl.of Tryz.func44 rfl rfl) rfl rfl (fun w' hE => power_sp x.width w') rfl ?_
        rintro q16 hq16
        have hq16 : powB x.width = q16 := hq16.symm
        cases q16
        · -- no
          repeat' (first | refine g_pv rfl rfl ?_ | refine g_nil ?_ | refine gq_block ?_ | refine g_no rfl rfl rfl rfl rfl ?_)
          refine gq_at true trivial ⟨rfl, rfl, rfl, congrArg (fun b => some (Value.bool b)) ?_, congrArg (fun n => some (Value.int .i64 n)) ?_, trivial⟩ (fun w' H => ?_)
          · simp [okI, hop, hq14, hq15, hq16]
          · simp [argsN, hop]
          · rw [shape7 hop]; exact H
        · -- yes
          repeat' (first | refine g_pv rfl rfl ?_ | refine g_ld 1 rfl rfl rfl rfl rfl rfl ?_ | refine g_yes rfl rfl rfl ?_)
          refine g_case (t := 238) rfl (fun h17 => ?_) (fun h17 => ?_)
          rotate_left
          · have h17 : decide (x.off ≥ 1) = false := h17
            repeat' (first | refine g_pv rfl rfl ?_ | refine g_nil ?_ | refine gq_block ?_ | refine g_no rfl rfl rfl rfl rfl ?_)
            refine gq_at true trivial ⟨rfl, rfl, rfl, congrArg (fun b => some (Value.bool b)) ?_, congrArg (fun n => some (Value.int .i64 n)) ?_, trivial⟩ (fun w' H => ?_)
            · simp [okI, hop, hq14, hq15, hq16, h17]
            · simp [argsN, hop]
            · rw [shape7 hop]; exact H
          have h17 : decide (x.off ≥ 1) = true := h17
          repeat' (first | refine g_pv rfl rfl ?_ | refine g_ld 1 rfl rfl rfl rfl rfl rfl ?_ | refine g_yes rfl rfl rfl ?_)
          refine g_case (t := 243) rfl (fun h18 => ?_) (fun h18 => ?_)
          rotate_left
          · have h18 : decide (x.off ≤ 16384) = false := h18
            repeat' (first | refine g_pv rfl rfl ?_ | refine g_nil ?_ | refine gq_block ?_ | refine g_no rfl rfl rfl rfl rfl ?_)
            refine gq_at true trivial ⟨rfl, rfl, rfl, congrArg (fun b => some (Value.bool b)) ?_, congrArg (fun n => some (Value.int .i64 n)) ?_, trivial⟩ (fun w' H => ?_)
            · simp [okI, hop, hq14, hq15, hq16, h17, h18]
            · simp [argsN, hop]
            · rw [shape7 hop]; exact H
          have h18 : decide (x.off ≤ 16384) = true := h18
          repeat' (first | refine g_pv rfl rfl ?_ | refine g_ld 1 rfl rfl rfl rfl rfl rfl ?_ | refine g_yes rfl rfl rfl ?_)
          have hne : x.width ≠ 0 := by
            intro h0; rw [h0] at hq16; exact absurd hq16 (by decide)
          refine g_p (p_rem rfl rfl hne) rfl ?_
          repeat' (first | refine g_pv rfl rfl ?_ | refine g_nil ?_ | refine gq_block ?_ | refine g_yes rfl rfl rfl ?_)
          refine gq_at true trivial ⟨rfl, rfl, rfl, congrArg (fun b => some (Value.bool b)) ?_, congrArg (fun n => some (Value.int .i64 n)) ?_, trivial⟩ (fun w' H => ?_)
          · simp [okI, hop, hq14, hq15, hq16, h17, h18]
          · simp [argsN, hop]
          · rw [shape7 hop]; exact H
  repeat' (first | refine g_pv rfl rfl ?_ | refine g_nil ?_ | refine gq_then ?_ | refine gc_seq ?_ | refine gc_region ?_)
  refine gc_condC rfl (fun c8 => ?_) (fun c8 => ?_)
  · have hop : x.op = 8 := beq_iff_eq.1 c8
    repeat' (refine gc_seq ?_)
    refine gc_draw [[(b3, .cells ⟨x.cells⟩ 43 (0, 0))], [(b2, .cells ⟨j.cells⟩ 59 (0, 0))]] [_] rfl List.perm_append_comm ?_
    (refine aP 0 rfl rfl ?_); (refine aL 1 0 rfl wanted_none rfl rfl rfl rfl rfl ?_); (refine aP 2 rfl rfl ?_); (refine aL 3 0 rfl wanted_none rfl rfl rfl rfl rfl ?_); (refine aP 4 rfl rfl ?_)
    refine aO 5 rfl (fun K hK => ?_)
    refine g_st 0 rfl rfl rfl rfl rfl rfl rfl ?_
    refine g_heap (R' := [[(b5, .cells ⟨[.int .i64 x.op, .int .i64 0, .int .i64 x.d, .int .i64 0, .int .u32 0, .int .i64 0, .int .u32 0, .int .i64 0, .int .i64 0, .int .i64 0, .bool false, .slice none 0 0]⟩ 43 (0, 0))], [(b3, .cells ⟨x.cells⟩ 43 (0, 0))], [(b2, .cells ⟨j.cells⟩ 59 (0, 0))]]) (fun w H => H) ?_
    refine g_nil ?_
    refine hK _ _ ⟨[_], List.perm_append_comm⟩ ?_
    (refine aP 6 rfl rfl ?_)
    refine aO 7 rfl (fun K hK => ?_)
    refine g_st 0 rfl rfl rfl rfl rfl rfl rfl ?_
    refine g_heap (R' := [[(b5, .cells ⟨[.int .i64 x.op, .int .i64 0, .int .i64 x.d, .int .i64 0, .int .u32 0, .int .i64 0, .int .u32 0, .int .i64 x.n, .int .i64 0, .int .i64 0, .bool false, .slice none 0 0]⟩ 43 (0, 0))], [(b3, .cells ⟨x.cells⟩ 43 (0, 0))], [(b2, .cells ⟨j.cells⟩ 59 (0, 0))]]) (fun w H => H) ?_
    refine g_nil ?_
    refine hK _ _ ⟨[_], List.perm_append_comm⟩ ?_
    refine ga_nil (by kernel_rfl) ?_
    repeat' (first | refine gq_then ?_ | refine gc_seq ?_)
    refine gc_draw [[(b5, .cells ⟨Ins.cells { op := x.op, bin := 0, d := x.d, a := ⟨0, 0⟩, b := ⟨0, 0⟩, n := x.n, off := 0, width := 0, signed := false, args := [], aA := none, aC := 0 }⟩ 43 (0, 0))], [(b3, .cells ⟨x.cells⟩ 43 (0, 0))], [(b2, .cells ⟨j.cells⟩ 59 (0, 0))]] [] rfl (List.Perm.of_eq rfl) ?_
    (refine aP 0 rfl rfl ?_); (refine aL 1 1 rfl wanted_none rfl rfl rfl rfl rfl ?_); (refine aP 2 rfl rfl ?_); (refine aP 3 rfl rfl ?_); (refine aL 4 2 rfl wanted_none rfl rfl rfl rfl rfl ?_); (refine aP 5 rfl rfl ?_)
    refine aO 6 rfl (fun K hK => ?_)
    refine g_call rfl (Cl.of Tryz.func23 rfl rfl) rfl rfl (fun w' hE => within_sp _ _ w') rfl (fun _ _ => ?_)
    refine g_nil ?_
    refine hK _ _ ⟨[], List.Perm.of_eq rfl⟩ ?_
    (refine aP 7 rfl rfl ?_)
    refine ga_case (t := 266) rfl (fun h2 => ?_) (fun h2 => ?_)
    rotate_left
    · have h2 : inB x.n j.p.fns.length = false := h2
      (refine aN 8 rfl rfl rfl rfl rfl ?_); (refine aN 9 rfl rfl rfl rfl rfl ?_); (refine aN 10 rfl rfl rfl rfl rfl ?_); (refine aN 11 rfl rfl rfl rfl rfl ?_); (refine aN 12 rfl rfl rfl rfl rfl ?_); (refine aN 13 rfl rfl rfl rfl rfl ?_); (refine aN 14 rfl rfl rfl rfl rfl ?_); (refine aN 15 rfl rfl rfl rfl rfl ?_); (refine aN 16 rfl rfl rfl rfl rfl ?_); (refine aN 17 rfl rfl rfl rfl rfl ?_); (refine aP 18 rfl rfl ?_); (refine aP 19 rfl rfl ?_)
      refine ga_nil (by kernel_rfl) ?_
      repeat' (first | refine g_pv rfl rfl ?_ | refine g_ld 1 rfl rfl rfl rfl rfl rfl ?_ | refine g_nil ?_ | refine gq_then ?_ | refine gc_region ?_ | refine gq_block ?_)
      refine gq_at true trivial ⟨rfl, rfl, rfl, congrArg (fun b => some (Value.bool b)) ?_, congrArg (fun n => some (Value.int .i64 n)) ?_, trivial⟩ (fun w' H => ?_)
      · simp [okI, hop, h2]
      · simp [argsN, hop]
      · rw [shape8 hop]; exact H
    have h2 : inB x.n j.p.fns.length = true := h2
    have hb2 : 0 ≤ x.n ∧ x.n < j.p.fns.length := by simpa [inB] using h2
    have hlx : j.p.fns[x.n.toNat]? = some (j.p.fns[x.n.toNat]'(by omega)) := List.getElem?_eq_getElem (by omega)
    generalize j.p.fns[x.n.toNat]'(by omega) = q at hlx
    (refine aL 8 2 rfl (wanted_yes rfl rfl rfl) rfl rfl rfl rfl rfl ?_); (refine aL 9 1 rfl (wanted_yes rfl rfl rfl) rfl rfl rfl rfl rfl ?_); (refine aY 10 rfl rfl rfl rfl rfl ?_); (refine aY 11 rfl rfl rfl rfl rfl ?_); (refine aL 12 2 rfl (wanted_yes rfl rfl rfl) rfl rfl rfl rfl rfl ?_); (refine aY 13 rfl rfl rfl rfl rfl ?_); (refine aL 14 1 rfl (wanted_yes rfl rfl rfl) rfl rfl rfl rfl rfl ?_)
    refine ga_at 15 16 (l := j.p.fns) (f := Fn.cells) (u := q) (by repeat first | exact NoP.sp | apply NoP.then | apply NoP.block) rfl (wanted_yes rfl rfl rfl) rfl (fun a _ h => wanted_yes rfl rfl rfl a h) rfl rfl rfl rfl rfl hb2.1 hb2.2 (still_rdO (hj.p.fns.le (old_le0 _ w))) hlx rfl rfl rfl rfl (by kernel_rfl) (by kernel_rfl) (by kernel_rfl) (by kernel_rfl) (by kernel_rfl) (fun a => ?_)
    refine aO 17 rfl (fun K hK => ?_)
    refine g_yes rfl rfl rfl ?_
    refine g_call rfl (Cl.of Tryz.func81 rfl rfl) rfl rfl (fun w' hE => call_sp j x q w' (hx.le (fun b o h => old_le hE b o (old_le0 _ w b o h))) (hj.le (fun b o h => old_le hE b o (old_le0 _ w b o h)))) rfl ?_
    rintro b hb
    refine g_nil ?_
    refine hK _ _ ⟨[], List.Perm.of_eq rfl⟩ ?_
    (refine aP 18 rfl rfl ?_); (refine aP 19 rfl rfl ?_)
    refine ga_nil (by kernel_rfl) ?_
    have hb : b = callB j x q := hb
    repeat' (first | refine g_pv rfl rfl ?_ | refine g_ld 1 rfl rfl rfl rfl rfl rfl ?_ | refine g_nil ?_ | refine gq_then ?_ | refine gc_region ?_ | refine gq_block ?_)
    refine gq_at true trivial ⟨rfl, rfl, rfl, congrArg (fun b => some (Value.bool b)) ?_, congrArg (fun n => some (Value.int .i64 n)) ?_, trivial⟩ (fun w' H => ?_)
    · simp [okI, hop, h2, hlx, hb]
    · simp [argsN, hop]
    · rw [shape8 hop]; exact H
  repeat' (first | refine g_pv rfl rfl ?_ | refine g_nil ?_ | refine gq_then ?_ | refine gc_seq ?_ | refine gc_region ?_)
  refine gc_condC rfl (fun c9 => ?_) (fun c9 => ?_)
  · have hop : x.op = 9 := beq_iff_eq.1 c9
    repeat' (first | refine g_pv rfl rfl ?_ | refine g_ld 1 rfl rfl rfl rfl rfl rfl ?_ | refine g_ld 2 rfl rfl rfl rfl rfl rfl ?_ | refine g_nil ?_ | refine gq_then ?_ | refine gc_seq ?_ | refine gc_region ?_ | refine g_st 0 rfl rfl rfl rfl rfl rfl rfl ?_)
    refine g_case (t := 289) rfl (fun h1 => ?_) (fun h1 => ?_)
    · repeat' (first | refine g_pv rfl rfl ?_ | refine g_ld 1 rfl rfl rfl rfl rfl rfl ?_ | refine g_ld 2 rfl rfl rfl rfl rfl rfl ?_ | refine g_yes rfl rfl rfl ?_)
      refine g_call rfl (Cl.of Tryz.func79 rfl rfl) rfl rfl (fun w' hE => arg_sp j x.a w' (hx.ok x.a (by simp)) hj.f.te) rfl ?_
      rintro q hq
      have hq : argB j.f.te x.a = q := hq.symm
      cases q
      · repeat' (first | refine g_pv rfl rfl ?_ | refine g_ld 2 rfl rfl rfl rfl rfl rfl ?_ | refine g_yes rfl rfl rfl ?_)
        refine g_eq 300 (u' := .bool false) rfl (by rw [h1]; rfl) ?_
        repeat' (first | refine g_pv rfl rfl ?_ | refine g_nil ?_ | refine gq_block ?_ | refine g_yes rfl rfl rfl ?_ | refine g_no rfl rfl rfl rfl rfl ?_)
        refine gq_at true trivial ⟨rfl, rfl, rfl, congrArg (fun b => some (Value.bool b)) ?_, congrArg (fun n => some (Value.int .i64 n)) ?_, trivial⟩ (fun w' H => ?_)
        · simp [okI, hop, h1, hq]
        · simp [argsN, hop]
        · rw [shape9 hop]; exact H
      · -- yes
        repeat' (first | refine g_pv rfl rfl ?_ | refine g_nil ?_ | refine gq_block ?_ | refine g_no rfl rfl rfl rfl rfl ?_)
        refine gq_at true trivial ⟨rfl, rfl, rfl, congrArg (fun b => some (Value.bool b)) ?_, congrArg (fun n => some (Value.int .i64 n)) ?_, trivial⟩ (fun w' H => ?_)
        · simp [okI, hop, h1, hq]
        · simp [argsN, hop]
        · rw [shape9 hop]; exact H
    · repeat' (first | refine g_pv rfl rfl ?_ | refine g_ld 2 rfl rfl rfl rfl rfl rfl ?_ | refine g_yes rfl rfl rfl ?_ | refine g_no rfl rfl rfl rfl rfl ?_)
      refine g_eq 300 (u' := .bool true) rfl (by rw [h1]; rfl) ?_
      repeat' (first | refine g_pv rfl rfl ?_ | refine g_ld 1 rfl rfl rfl rfl rfl rfl ?_ | refine g_yes rfl rfl rfl ?_)
      refine g_p (p_build rfl rfl rfl rfl) rfl ?_
      repeat' (refine g_yes rfl rfl rfl ?_)
      refine g_p (p_eqA rfl rfl rfl rfl rfl (by kernel_rfl)) rfl ?_
      repeat' (first | refine g_pv rfl rfl ?_ | refine g_nil ?_ | refine gq_block ?_ | refine g_yes rfl rfl rfl ?_)
      refine gq_at true trivial ⟨rfl, rfl, rfl, congrArg (fun b => some (Value.bool b)) ?_, congrArg (fun n => some (Value.int .i64 n)) ?_, trivial⟩ (fun w' H => ?_)
      · simp [okI, hop, h1]
      · simp [argsN, hop]
      · rw [shape9 hop]; exact H
  repeat' (first | refine g_pv rfl rfl ?_ | refine g_nil ?_ | refine gq_then ?_ | refine gc_seq ?_ | refine gc_region ?_)
  refine gc_condC rfl (fun c10 => ?_) (fun c10 => ?_)
  · have hop : x.op = 10 := beq_iff_eq.1 c10
    repeat' (first | refine g_pv rfl rfl ?_ | refine g_ld 1 rfl rfl rfl rfl rfl rfl ?_ | refine g_ld 2 rfl rfl rfl rfl rfl rfl ?_ | refine g_nil ?_ | refine gq_then ?_ | refine gc_seq ?_ | refine gc_region ?_ | refine g_st 0 rfl rfl rfl rfl rfl rfl rfl ?_)
    refine g_call rfl (Cl.of Tryz.func23 rfl rfl) rfl rfl (fun w' hE => within_sp _ _ w') rfl (fun _ _ => ?_)
    repeat' (first | refine g_pv rfl rfl ?_ | refine g_nil ?_ | refine gq_block ?_)
    repeat' (fail)
    refine gq_at true trivial ⟨rfl, rfl, rfl, congrArg (fun b => some (Value.bool b)) ?_, congrArg (fun n => some (Value.int .i64 n)) ?_, trivial⟩ (fun w' H => ?_)
    · show inB x.n j.f.code.length = _; simp [okI, hop]
    · simp [argsN, hop]
    · rw [shape10 hop]; exact H
  repeat' (first | refine g_pv rfl rfl ?_ | refine g_nil ?_ | refine gq_then ?_ | refine gc_seq ?_ | refine gc_region ?_)
  refine gc_condC rfl (fun c11 => ?_) (fun c11 => ?_)
  · have hop : x.op = 11 := beq_iff_eq.1 c11
    repeat' (refine gc_seq ?_)
    refine gc_draw [[(b3, .cells ⟨x.cells⟩ 43 (0, 0))], [(b2, .cells ⟨j.cells⟩ 59 (0, 0))]] [_] rfl List.perm_append_comm ?_
    (refine aP 0 rfl rfl ?_); (refine aL 1 0 rfl wanted_none rfl rfl rfl rfl rfl ?_); (refine aP 2 rfl rfl ?_); (refine aL 3 0 rfl wanted_none rfl rfl rfl rfl rfl ?_); (refine aP 4 rfl rfl ?_)
    refine aO 5 rfl (fun K hK => ?_)
    refine g_st 0 rfl rfl rfl rfl rfl rfl rfl ?_
    refine g_heap (R' := [[(b5, .cells ⟨[.int .i64 x.op, .int .i64 0, .int .i64 (-1), .int .i64 0, .int .u32 0, .int .i64 0, .int .u32 0, .int .i64 x.n, .int .i64 0, .int .i64 0, .bool false, .slice none 0 0]⟩ 43 (0, 0))], [(b3, .cells ⟨x.cells⟩ 43 (0, 0))], [(b2, .cells ⟨j.cells⟩ 59 (0, 0))]]) (fun w H => H) ?_
    refine g_nil ?_
    refine hK _ _ ⟨[_], List.perm_append_comm⟩ ?_
    (refine aP 6 rfl rfl ?_)
    refine aO 7 rfl (fun K hK => ?_)
    refine g_st 0 rfl rfl rfl rfl rfl rfl rfl ?_
    refine g_heap (R' := [[(b5, .cells ⟨[.int .i64 x.op, .int .i64 0, .int .i64 (-1), .int .i64 x.a.k, .int .u32 x.a.n, .int .i64 0, .int .u32 0, .int .i64 x.n, .int .i64 0, .int .i64 0, .bool false, .slice none 0 0]⟩ 43 (0, 0))], [(b3, .cells ⟨x.cells⟩ 43 (0, 0))], [(b2, .cells ⟨j.cells⟩ 59 (0, 0))]]) (fun w H => H) ?_
    refine g_nil ?_
    refine hK _ _ ⟨[_], List.perm_append_comm⟩ ?_
    refine ga_nil (by kernel_rfl) ?_
    repeat' (first | refine g_pv rfl rfl ?_ | refine g_ld 1 rfl rfl rfl rfl rfl rfl ?_ | refine g_ld 2 rfl rfl rfl rfl rfl rfl ?_ | refine gq_then ?_ | refine gc_region ?_)
    refine g_call rfl (Cl.of Tryz.func23 rfl rfl) rfl rfl (fun w' hE => within_sp _ _ w') rfl (fun _ _ => ?_)
    repeat' (refine g_pv rfl rfl ?_)
    refine g_case (t := 334) rfl (fun h19 => ?_) (fun h19 => ?_)
    rotate_left
    · have h19 : inB x.n j.f.code.length = false := h19
      repeat' (first | refine g_pv rfl rfl ?_ | refine g_nil ?_ | refine gq_block ?_ | refine g_no rfl rfl rfl rfl rfl ?_)
      refine gq_at true trivial ⟨rfl, rfl, rfl, congrArg (fun b => some (Value.bool b)) ?_, congrArg (fun n => some (Value.int .i64 n)) ?_, trivial⟩ (fun w' H => ?_)
      · simp [okI, hop, h19]
      · simp [argsN, hop]
      · rw [shape11 hop]; exact H
    have h19 : inB x.n j.f.code.length = true := h19
    repeat' (first | refine g_pv rfl rfl ?_ | refine g_ld 1 rfl rfl rfl rfl rfl rfl ?_ | refine g_ld 2 rfl rfl rfl rfl rfl rfl ?_ | refine g_yes rfl rfl rfl ?_)
    refine g_call rfl (Cl.of Tryz.func79 rfl rfl) rfl rfl (fun w' hE => arg_sp j x.a w' (hx.ok x.a (by simp)) hj.f.te) rfl ?_
    rintro q20 hq20
    have hq20 : argB j.f.te x.a = q20 := hq20.symm
    cases q20
    · -- no
      repeat' (first | refine g_pv rfl rfl ?_ | refine g_nil ?_ | refine gq_block ?_)
      refine gq_at true trivial ⟨rfl, rfl, rfl, congrArg (fun b => some (Value.bool b)) ?_, congrArg (fun n => some (Value.int .i64 n)) ?_, trivial⟩ (fun w' H => ?_)
      · simp [okI, hop, h19, hq20]
      · simp [argsN, hop]
      · rw [shape11 hop]; exact H
    · -- yes
      repeat' (first | refine g_pv rfl rfl ?_ | refine g_nil ?_ | refine gq_block ?_)
      repeat' (fail)
      refine gq_at true trivial ⟨rfl, rfl, rfl, congrArg (fun b => some (Value.bool b)) ?_, congrArg (fun n => some (Value.int .i64 n)) ?_, trivial⟩ (fun w' H => ?_)
      · simp [okI, hop, h19, hq20]
      · simp [argsN, hop]
      · rw [shape11 hop]; exact H
  repeat' (first | refine g_pv rfl rfl ?_ | refine g_nil ?_ | refine gq_then ?_ | refine gc_seq ?_ | refine gc_region ?_)
  refine gc_condC rfl (fun c12 => ?_) (fun c12 => ?_)
  · have hop : x.op = 12 := beq_iff_eq.1 c12
    repeat' (first | refine g_pv rfl rfl ?_ | refine g_ld 1 rfl rfl rfl rfl rfl rfl ?_ | refine g_ld 2 rfl rfl rfl rfl rfl rfl ?_ | refine g_nil ?_ | refine gq_then ?_ | refine gc_seq ?_ | refine gc_region ?_ | refine gc_cond_t rfl ?_ | refine gc_skip ?_ | refine g_st 0 rfl rfl rfl rfl rfl rfl rfl ?_)
    refine g_call rfl (Cl.of Tryz.func79 rfl rfl) rfl rfl (fun w' hE => arg_sp j x.a w' (hx.ok x.a (by simp)) hj.f.te) rfl ?_
    rintro q21 hq21
    have hq21 : argB j.f.te x.a = q21 := hq21.symm
    cases q21
    · -- no
      repeat' (first | refine g_pv rfl rfl ?_ | refine g_nil ?_ | refine gq_block ?_)
      refine gq_at true trivial ⟨rfl, rfl, rfl, congrArg (fun b => some (Value.bool b)) ?_, congrArg (fun n => some (Value.int .i64 n)) ?_, trivial⟩ (fun w' H => ?_)
      · simp [okI, hop, hq21]
      · simp [argsN, hop]
      · rw [shape12 hop]; exact H
    · -- yes
      repeat' (first | refine g_pv rfl rfl ?_ | refine g_nil ?_ | refine gq_block ?_)
      repeat' (fail)
      refine gq_at true trivial ⟨rfl, rfl, rfl, congrArg (fun b => some (Value.bool b)) ?_, congrArg (fun n => some (Value.int .i64 n)) ?_, trivial⟩ (fun w' H => ?_)
      · simp [okI, hop, hq21]
      · simp [argsN, hop]
      · rw [shape12 hop]; exact H
  repeat' (first | refine g_pv rfl rfl ?_ | refine g_nil ?_ | refine gq_then ?_ | refine gc_region ?_)
  refine gc_condC rfl (fun c14 => ?_) (fun c14 => ?_)
  · have hop : x.op = 14 := beq_iff_eq.1 c14
    repeat' (first | refine g_pv rfl rfl ?_ | refine g_ld 1 rfl rfl rfl rfl rfl rfl ?_ | refine g_ld 2 rfl rfl rfl rfl rfl rfl ?_ | refine g_nil ?_ | refine gq_then ?_ | refine gc_seq ?_ | refine gc_region ?_ | refine g_st 0 rfl rfl rfl rfl rfl rfl rfl ?_)
    refine g_call rfl (Cl.of Tryz.func79 rfl rfl) rfl rfl (fun w' hE => arg_sp j x.a w' (hx.ok x.a (by simp)) hj.f.te) rfl ?_
    rintro q22 hq22
    have hq22 : argB j.f.te x.a = q22 := hq22.symm
    cases q22
    · -- no
      repeat' (first | refine g_pv rfl rfl ?_ | refine g_nil ?_ | refine gq_block ?_)
      refine gq_at true trivial ⟨rfl, rfl, rfl, congrArg (fun b => some (Value.bool b)) ?_, congrArg (fun n => some (Value.int .i64 n)) ?_, trivial⟩ (fun w' H => ?_)
      · simp [okI, hop, hq22]
      · simp [argsN, hop]
      · rw [shape14 hop]; exact H
    · -- yes
      repeat' (first | refine g_pv rfl rfl ?_ | refine g_nil ?_ | refine gq_block ?_)
      repeat' (fail)
      refine gq_at true trivial ⟨rfl, rfl, rfl, congrArg (fun b => some (Value.bool b)) ?_, congrArg (fun n => some (Value.int .i64 n)) ?_, trivial⟩ (fun w' H => ?_)
      · simp [okI, hop, hq22]
      · simp [argsN, hop]
      · rw [shape14 hop]; exact H
  repeat' (first | refine g_pv rfl rfl ?_ | refine g_nil ?_ | refine gq_then ?_ | refine gc_seq ?_ | refine gc_region ?_)
  refine gc_condC rfl (fun c13 => ?_) (fun c13 => ?_)
  · have hop : x.op = 13 := beq_iff_eq.1 c13
    repeat' (first | refine g_pv rfl rfl ?_ | refine g_ld 1 rfl rfl rfl rfl rfl rfl ?_ | refine g_nil ?_ | refine gq_then ?_ | refine gc_seq ?_ | refine gc_region ?_ | refine gq_block ?_ | refine g_st 0 rfl rfl rfl rfl rfl rfl rfl ?_)
    repeat' (fail)
    refine gq_at true trivial ⟨rfl, rfl, rfl, congrArg (fun b => some (Value.bool b)) ?_, congrArg (fun n => some (Value.int .i64 n)) ?_, trivial⟩ (fun w' H => ?_)
    · show inB x.d j.f.te = _; simp [okI, hop]
    · simp [argsN, hop]
    · rw [shape13 hop]; exact H
  repeat' (first | refine gc_skip ?_ | refine gq_block ?_)
  refine gq_at true trivial ⟨rfl, rfl, rfl, congrArg (fun b => some (Value.bool b)) ?_, congrArg (fun n => some (Value.int .i64 n)) ?_, trivial⟩ (fun w' H => ?_)
  · simp [okI, beq_eq_false_iff_ne.1 c1, beq_eq_false_iff_ne.1 c2, beq_eq_false_iff_ne.1 c3, beq_eq_false_iff_ne.1 c4, beq_eq_false_iff_ne.1 c5, beq_eq_false_iff_ne.1 c6, beq_eq_false_iff_ne.1 c7, beq_eq_false_iff_ne.1 c8, beq_eq_false_iff_ne.1 c9, beq_eq_false_iff_ne.1 c10, beq_eq_false_iff_ne.1 c11, beq_eq_false_iff_ne.1 c12, beq_eq_false_iff_ne.1 c13, beq_eq_false_iff_ne.1 c14]
  · simp [argsN, beq_eq_false_iff_ne.1 c1, beq_eq_false_iff_ne.1 c2, beq_eq_false_iff_ne.1 c3, beq_eq_false_iff_ne.1 c4, beq_eq_false_iff_ne.1 c5, beq_eq_false_iff_ne.1 c6, beq_eq_false_iff_ne.1 c7, beq_eq_false_iff_ne.1 c8, beq_eq_false_iff_ne.1 c9, beq_eq_false_iff_ne.1 c10, beq_eq_false_iff_ne.1 c11, beq_eq_false_iff_ne.1 c12, beq_eq_false_iff_ne.1 c13, beq_eq_false_iff_ne.1 c14]
  · rw [show shapeI x = { op := x.op, bin := 0, d := -1, a := ⟨0, 0⟩, b := ⟨0, 0⟩, n := 0, off := 0, width := 0, signed := false, args := [], aA := none, aC := 0 } from by simp [shapeI, beq_eq_false_iff_ne.1 c1, beq_eq_false_iff_ne.1 c2, beq_eq_false_iff_ne.1 c3, beq_eq_false_iff_ne.1 c4, beq_eq_false_iff_ne.1 c5, beq_eq_false_iff_ne.1 c6, beq_eq_false_iff_ne.1 c7, beq_eq_false_iff_ne.1 c8, beq_eq_false_iff_ne.1 c9, beq_eq_false_iff_ne.1 c10, beq_eq_false_iff_ne.1 c11, beq_eq_false_iff_ne.1 c12, beq_eq_false_iff_ne.1 c13, beq_eq_false_iff_ne.1 c14]]; exact H
end Go.Proofs.YtpohhfggmaihpaaGreatDoor

/- The plain law of TacNexts: where a right instruction goes on. -/
namespace Go.Proofs.YtpohhfggmaihpaaGreatDoor
open Go.Wk
set_option linter.unusedVariables false
set_option linter.unusedSimpArgs false
attribute [local irreducible] G GC GQ GA GS Exit.then Exit.inBlock

/-- What a right instruction keeps to: te temporaries, n instructions. -/
structure FactsI (te n : Int) (x : Ins) : Prop where
  args : ∀ a ∈ [x.a, x.b] ++ x.args, a.k = 1 → a.n < te
  wr : x.writes < te
  nx : x.op = 10 ∨ x.op = 11 → 0 ≤ x.n ∧ x.n < n
structure FactsF (f : Fn) : Prop where
  pos : 0 ≤ f.te
  all : ∀ x ∈ f.code, FactsI f.te f.code.length x
  last : ∀ x, f.code[f.code.length - 1]? = some x → x.op = 9 ∨ x.op = 10 ∨ x.op = 14

/-- Of a list: nothing, one number in range, or two that rise. -/
inductive NxtOk (n : Int) : List Int → Prop where
  | one {a : Int} : 0 ≤ a → a < n → NxtOk n [a]
  | two {a b : Int} : 0 ≤ a → a < b → b < n → NxtOk n [a, b]
end Go.Proofs.YtpohhfggmaihpaaGreatDoor

/- What a right instruction keeps to. -/
namespace Go.Proofs.YtpohhfggmaihpaaGreatDoor
open Go.Wk
set_option linter.unusedVariables false
set_option linter.unusedSimpArgs false
attribute [local irreducible] G GC GQ GA GS Exit.then Exit.inBlock

theorem inB_iff {a b : Int} : inB a b = true ↔ 0 ≤ a ∧ a < b := by simp [inB]
end Go.Proofs.YtpohhfggmaihpaaGreatDoor

/- A string's byte; contracts of the library's that leave more blocks behind. -/
namespace Go.Wk
open Go.Ev
set_option linter.unusedVariables false
set_option linter.unusedSimpArgs false
section
variable {X : Cx} {L : LT} {d : Nat} {x y : Operand} {t ty : TypeId} {p : String} {af : Array Edge}
/-- s[i] of a string. -/
theorem p_idxT {A : ByteArray} {ik : IntKind} {i : Int} {c : UInt8} {z : Value} {s u : Nat} (hx : ev L x = some (.string A)) (hy : ev L y = some (.int ik i)) (ht : tl X.s.tab t = some ⟨.string, z, s, u⟩) (h0 : 0 ≤ i) (hb : A.data.toList[i.toNat]? = some c) :
    PR X.s.P L (⟨some d, .index t x y, ty, p, af, none⟩ : Oper) (.int .u8 c.toNat) := fun ρ w h => by
  have hu := tk_string (X.s.ok.at ht)
  have hlt : i.toNat < A.size := by have := (List.getElem?_eq_some_iff.1 hb).1; simpa using this
  have e : A[i.toNat]? = some c := by
    rw [ByteArray.getElem?_lt' A _ hlt]
    have := (List.getElem?_eq_some_iff.1 hb).2
    rw [← this]; rfl
  simp only [execOp, h x _ hx, h y _ hy]
  simp [Instr.index, asIntOf, run_underlying hu, h0, e]
/-- s[lo:hi]. -/
theorem p_sl {q : Operand} {e : TypeId} {z : Value} {s b : Nat} {te : Ti} {ik ik' : IntKind} {A : Option Addr} {n c lo hi : Nat} (hx : ev L x = some (.slice A n c)) (hy : ev L y = some (.int ik lo)) (hq : ev L q = some (.int ik' hi)) (ht : tl X.s.tab t = some ⟨.slice e, z, s, b⟩) (hte : tl X.s.tab e = some te)
    (h1 : lo ≤ hi) (h2 : hi ≤ c) : PR X.s.P L (⟨some d, .slice t x (some y) (some q) none, ty, p, af, none⟩ : Oper) (.slice (if c = lo then A else A.map (·.add (lo * te.sz))) (hi - lo) (c - lo)) :=
  fun ρ w hv => by
    have hu := tk_slice (X.s.ok.at ht)
    have h3 : (0 : Int) ≤ lo ∧ (lo : Int) ≤ hi := by omega
    have h4 : (0 : Int) ≤ hi ∧ (hi : Int) ≤ c := by omega
    simp only [execOp, Option.map, hv x _ hx, hv y _ hy, hv q _ hq]
    simp [Instr.sliceAt, Instr.slice, run_underlying hu, Instr.sliceBounds, Instr.sliceBound, asIntOf, h3, h4, run_sizeOf (X.s.ok.at hte), h1, h2]
    cases A <;> rfl
theorem Rd.sub {α : Type} {H : Nat → Option Obj} {f : α → List Value} {sz : Nat} {A : Option Addr} {l : List α} (h : Rd H f sz A l) {lo : Nat} (hlt : lo < l.length) (m : Nat) :
    ∃ b o, A = some ⟨b, o, none⟩ ∧ Rd H f sz (some ⟨b, o + lo * sz, none⟩) ((l.drop lo).take m) := by
  obtain ⟨b, o, hA, -⟩ := h lo _ (List.getElem?_eq_getElem hlt)
  refine ⟨b, o, hA, fun i y hy => ?_⟩
  rw [List.getElem?_take] at hy
  split at hy
  · rw [List.getElem?_drop] at hy
    obtain ⟨b2, o2, hA2, hc⟩ := h _ _ hy
    rw [hA] at hA2; cases hA2
    refine ⟨b, o + lo * sz, rfl, fun j u hj => ?_⟩
    have := hc j u hj
    rw [Nat.add_mul] at this
    rw [show o + lo * sz + i * sz + j = o + (lo * sz + i * sz) + j from by omega]
    exact this
  · cases hy
theorem eff_of_below {w w' : World} (h : RowKit.Below w.heap.size w w') : Eff w [] w' [] :=
  ⟨(fun b o hb => by cases hb), List.nodup_nil, (fun b hb => by cases hb), fun b hb _ => h.block b hb, h.size, h.os, h.tape, h.output⟩
end
end Go.Wk

/- The shelf's numbers of strings.Trim and strings.CutPrefix at this translation, as the kit's lay-plain wrote them. -/
namespace Go.Proofs
open Go.Shelf
def Tryz.lays160_ren : Go.Shelf.Ren := ⟨fun | 160 => 76 | 232 => 119 | 231 => 118 | 227 => 120 | 234 => 122 | 233 => 121 | 236 => 124 | 235 => 123 | 228 => 147 | 271 => 150 | 151 => 149 | 197 => 148 | 120 => 170 | 152 => 169 | 260 => 168 | 137 => 110 | 119 => 182 | 224 => 176 | 225 => 175 | 217 => 138 | 266 => 158 | n => n, fun | 9 => 9 | 4 => 4 | 3 => 3 | 5 => 5 | 117 => 164 | 116 => 163 | 0 => 0 | 124 => 167 | 21 => 21 | 105 => 185 | 46 => 105 | 119 => 214 | 139 => 217 | 138 => 216 | n => n, fun | 3 => 4 | 4 => 5 | n => n⟩
theorem Tryz.lays160 : Go.Proofs.Lays.n160 Tryz.prog Tryz.lays160_ren := {
  mixed := by kernel_rfl
  f119 := Tryz.func182.trans (congrArg some (by kernel_rfl))
  f120 := Tryz.func170.trans (congrArg some (by kernel_rfl))
  f137 := Tryz.func110.trans (congrArg some (by kernel_rfl))
  f151 := Tryz.func149.trans (congrArg some (by kernel_rfl))
  f152 := Tryz.func169.trans (congrArg some (by kernel_rfl))
  f160 := Tryz.func76.trans (congrArg some (by kernel_rfl))
  f197 := Tryz.func148.trans (congrArg some (by kernel_rfl))
  f217 := Tryz.func138.trans (congrArg some (by kernel_rfl))
  f224 := Tryz.func176.trans (congrArg some (by kernel_rfl))
  f225 := Tryz.func175.trans (congrArg some (by kernel_rfl))
  f227 := Tryz.func120.trans (congrArg some (by kernel_rfl))
  f228 := Tryz.func147.trans (congrArg some (by kernel_rfl))
  f231 := Tryz.func118.trans (congrArg some (by kernel_rfl))
  f232 := Tryz.func119.trans (congrArg some (by kernel_rfl))
  f233 := Tryz.func121.trans (congrArg some (by kernel_rfl))
  f234 := Tryz.func122.trans (congrArg some (by kernel_rfl))
  f235 := Tryz.func123.trans (congrArg some (by kernel_rfl))
  f236 := Tryz.func124.trans (congrArg some (by kernel_rfl))
  f260 := Tryz.func168.trans (congrArg some (by kernel_rfl))
  f266 := Tryz.func158.trans (congrArg some (by kernel_rfl))
  f271 := Tryz.func150.trans (congrArg some (by kernel_rfl))
  t0 := Tryz.underlying0
  a0 := Tryz.isAgg0
  z0 := Tryz.sizeOf0
  v0 := Tryz.zeroValue0
  t3 := Tryz.underlying3
  a3 := Tryz.isAgg3
  z3 := Tryz.sizeOf3
  v3 := Tryz.zeroValue3
  t4 := Tryz.underlying4
  a4 := Tryz.isAgg4
  z4 := Tryz.sizeOf4
  v4 := Tryz.zeroValue4
  t5 := Tryz.underlying5
  a5 := Tryz.isAgg5
  z5 := Tryz.sizeOf5
  v5 := Tryz.zeroValue5
  t9 := Tryz.underlying9
  a9 := Tryz.isAgg9
  z9 := Tryz.sizeOf9
  v9 := Tryz.zeroValue9
  t21 := Tryz.underlying21
  a21 := Tryz.isAgg21
  z21 := Tryz.sizeOf21
  v21 := Tryz.zeroValue21
  t46 := Tryz.underlying105
  a46 := Tryz.isAgg105
  z46 := Tryz.sizeOf105
  v46 := Tryz.zeroValue105
  t105 := Tryz.underlying185
  a105 := Tryz.isAgg185
  z105 := Tryz.sizeOf185
  v105 := Tryz.zeroValue185
  t116 := Tryz.underlying163
  a116 := Tryz.isAgg163
  z116 := Tryz.sizeOf163
  t117 := Tryz.underlying164
  a117 := Tryz.isAgg164
  z117 := Tryz.sizeOf164
  v117 := Tryz.zeroValue164
  t119 := Tryz.underlying214
  a119 := Tryz.isAgg214
  z119 := Tryz.sizeOf214
  t124 := Tryz.underlying167
  a124 := Tryz.isAgg167
  z124 := Tryz.sizeOf167
  v124 := Tryz.zeroValue167
  t138 := Tryz.underlying216
  a138 := Tryz.isAgg216
  z138 := Tryz.sizeOf216
  v138 := Tryz.zeroValue216
  t139 := Tryz.underlying217
  a139 := Tryz.isAgg217
  z139 := Tryz.sizeOf217
  v139 := Tryz.zeroValue217
  g3 := by kernel_rfl
  g4 := by kernel_rfl }
def Tryz.lays103_ren : Go.Shelf.Ren := ⟨fun | 103 => 75 | 210 => 117 | 206 => 146 | n => n, fun | 9 => 9 | 4 => 4 | 24 => 133 | 3 => 3 | n => n, fun | n => n⟩
theorem Tryz.lays103 : Go.Proofs.Lays.n103 Tryz.prog Tryz.lays103_ren := {
  mixed := by kernel_rfl
  f103 := Tryz.func75.trans (congrArg some (by kernel_rfl))
  f206 := Tryz.func146.trans (congrArg some (by kernel_rfl))
  f210 := Tryz.func117.trans (congrArg some (by kernel_rfl))
  t3 := Tryz.underlying3
  a3 := Tryz.isAgg3
  z3 := Tryz.sizeOf3
  v3 := Tryz.zeroValue3
  t4 := Tryz.underlying4
  a4 := Tryz.isAgg4
  z4 := Tryz.sizeOf4
  v4 := Tryz.zeroValue4
  t9 := Tryz.underlying9
  a9 := Tryz.isAgg9
  z9 := Tryz.sizeOf9
  v9 := Tryz.zeroValue9
  t24 := Tryz.underlying133
  a24 := Tryz.isAgg133
  z24 := Tryz.sizeOf133
  v24 := Tryz.zeroValue133 }
end Go.Proofs
