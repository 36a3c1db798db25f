/-
  The plain law of TacNexts: where a right instruction goes on.
  What a right instruction keeps to.
  A string's byte; contracts of the library's that leave more blocks behind.
  The shelf's numbers of strings.Trim and strings.CutPrefix at this translation, as the kit's lay-plain wrote them.
  ctype: letters, Tag.
  slices.Max at []byte.
  tac's judge: object.
  tac's judge: function.
-/
import Derived.Test.YtpohhfggmaihpaaGreatDoorZ10
import Derived.Test.YtpohhfggmaihpaaGreatDoorZ12
import Derived.Test.YtpohhfggmaihpaaGreatDoorZ11
import Derived.Below
import Derived.Shelf.Strings.SlTrimAscii
import Derived.Shelf.Small.Wraps
import Derived.Ground.Names2Prog
import Derived.Test.YtpohhfggmaihpaaGreatDoorProg

/- The plain law of TacNexts: where a right instruction goes on. -/
namespace Go.Proofs.YtpohhfggmaihpaaGreatDoor
open Go.Wk
set_option linter.unusedVariables false
set_option linter.unusedSimpArgs false
attribute [local irreducible] G GC GQ GA GS Exit.then Exit.inBlock

/-- What a right instruction keeps to: te temporaries, n instructions. -/
structure FactsI (te n : Int) (x : Ins) : Prop where
  args : ∀ a ∈ [x.a, x.b] ++ x.args, a.k = 1 → a.n < te
  wr : x.writes < te
  nx : x.op = 10 ∨ x.op = 11 → 0 ≤ x.n ∧ x.n < n
structure FactsF (f : Fn) : Prop where
  pos : 0 ≤ f.te
  all : ∀ x ∈ f.code, FactsI f.te f.code.length x
  last : ∀ x, f.code[f.code.length - 1]? = some x → x.op = 9 ∨ x.op = 10 ∨ x.op = 14

theorem reads_in {te n : Int} {x : Ins} (hF : FactsI te n x) (hok : ∀ a, a ∈ [x.a, x.b] ++ x.args → a.ok) : ∀ m ∈ x.reads, 0 ≤ m ∧ m < te := by
  intro m hm
  unfold Ins.reads readsF at hm
  obtain ⟨a, ha, h1⟩ := List.mem_filterMap.1 hm
  split at h1
  · rename_i hk
    cases h1
    exact ⟨(hok a ha).1, hF.args a ha hk⟩
  · cases h1
theorem writes_ge (x : Ins) : -1 ≤ x.writes := by
  unfold Ins.writes
  split <;> omega

/-- Of a list: nothing, one number in range, or two that rise. -/
inductive NxtOk (n : Int) : List Int → Prop where
  | one {a : Int} : 0 ≤ a → a < n → NxtOk n [a]
  | two {a b : Int} : 0 ≤ a → a < b → b < n → NxtOk n [a, b]
theorem next_ok {te : Int} {n k : Nat} {x : Ins} (hF : FactsI te n x) (hk : k < n) (hl : k + 1 = n → x.op = 9 ∨ x.op = 10 ∨ x.op = 14) :
    (x.op = 9 ∨ x.op = 14) ∧ nextL n x k = [] ∨ ¬ (x.op = 9 ∨ x.op = 14) ∧ NxtOk n (nextL n x k) := by
  by_cases h : x.op = 9 ∨ x.op = 14
  · left; refine ⟨h, ?_⟩; simp only [nextL, if_pos h]
  · right
    refine ⟨h, ?_⟩
    simp only [nextL, if_neg h]
    by_cases h1 : x.op = 10
    · rw [if_pos h1]
      have := hF.nx (.inl h1)
      simp only [List.filter_cons, List.filter_nil]
      rw [if_pos (by simp; omega)]
      exact .one this.1 this.2
    · rw [if_neg h1]
      by_cases h2 : x.op = 11
      · rw [if_pos h2]
        have hx := hF.nx (.inr h2)
        have h3 : k + 1 ≠ n := fun he => by rcases hl he with h | h | h <;> omega
        by_cases h4 : x.n = (k : Int) + 1
        · rw [if_pos h4]
          simp only [List.filter_cons, List.filter_nil]
          rw [if_pos (by simp; omega)]
          exact .one (by omega) (by omega)
        · rw [if_neg h4]
          simp only [List.filter_cons, List.filter_nil]
          rw [if_pos (by simp; omega), if_pos (by simp; omega)]
          exact .two (by omega) (by omega) (by omega)
      · rw [if_neg h2]
        have h3 : k + 1 ≠ n := fun he => by rcases hl he with h' | h' | h' <;> omega
        simp only [List.filter_cons, List.filter_nil]
        rw [if_pos (by simp; omega)]
        exact .one (by omega) (by omega)
end Go.Proofs.YtpohhfggmaihpaaGreatDoor

/- What a right instruction keeps to. -/
namespace Go.Proofs.YtpohhfggmaihpaaGreatDoor
open Go.Wk
set_option linter.unusedVariables false
set_option linter.unusedSimpArgs false
attribute [local irreducible] G GC GQ GA GS Exit.then Exit.inBlock

theorem argB_lt {te : Int} {a : Arg} (h : argB te a = true) (hk : a.k = 1) : a.n < te := by
  unfold argB at h
  rw [hk] at h
  simpa using h
theorem inB_iff {a b : Int} : inB a b = true ↔ 0 ≤ a ∧ a < b := by simp [inB]
theorem mkFacts {te n : Int} {x : Ins} (hA : argB te x.a = true ∨ x.a.k = 0) (hB : argB te x.b = true ∨ x.b.k = 0) (hR : x.args.length = 0 ∨ x.args.all (argB te) = true) (hW : x.writes < te) (hN : x.op = 10 ∨ x.op = 11 → 0 ≤ x.n ∧ x.n < n) : FactsI te n x := by
  refine ⟨fun a ha hk => ?_, hW, hN⟩
  simp only [List.mem_append, List.mem_cons, List.not_mem_nil, or_false] at ha
  rcases ha with (rfl | rfl) | ha
  · rcases hA with h | h
    · exact argB_lt h hk
    · omega
  · rcases hB with h | h
    · exact argB_lt h hk
    · omega
  · rcases hR with h | h
    · rw [List.length_eq_zero_iff.1 h] at ha; cases ha
    · exact argB_lt (List.all_eq_true.1 h a ha) hk
theorem alike_eqs {x y : Ins} (h : alikeB x y = true) : x.a.k = y.a.k ∧ x.b.k = y.b.k ∧ x.d = y.d := by
  unfold alikeB at h
  simp only [Bool.and_eq_true, beq_iff_eq] at h
  exact ⟨h.2.2.2.1.1, h.2.2.2.2.1.1, h.2.2.1⟩
theorem writes_lt {te : Int} {x : Ins} (hp : 0 ≤ te) (h : writesOp x.op = true → x.d < te) : x.writes < te := by
  unfold Ins.writes
  split
  · rename_i hw; have := h hw; omega
  · omega
theorem right_facts {nb : Bool} {j : Jg} {x : Ins} (h : rightB nb j x = true) (hp : 0 ≤ j.f.te) : FactsI j.f.te j.f.code.length x := by
  unfold rightB at h
  simp only [Bool.and_eq_true, beq_iff_eq] at h
  obtain ⟨h1, h2, h3⟩ := h
  obtain ⟨ha, hb, hd⟩ := alike_eqs h3
  by_cases e1 : x.op = 1
  · rw [shape1 e1] at ha hb hd
    dsimp only at ha hb hd
    simp [okI, e1] at h1
    have hz : x.args.length = 0 := by simp [argsN, e1] at h2; simp [h2]
    exact mkFacts (.inl h1.2) (.inr hb) (.inl hz) (writes_lt hp (fun _ => (inB_iff.1 h1.1).2)) (fun hn => by omega)
  by_cases e2 : x.op = 2
  · rw [shape2 e2] at ha hb hd
    dsimp only at ha hb hd
    simp [okI, e2] at h1
    have hz : x.args.length = 0 := by simp [argsN, e2] at h2; simp [h2]
    exact mkFacts (.inl h1.2.1) (.inl h1.2.2.1) (.inl hz) (writes_lt hp (fun _ => (inB_iff.1 h1.1).2)) (fun hn => by omega)
  by_cases e3 : x.op = 3
  · rw [shape3 e3] at ha hb hd
    dsimp only at ha hb hd
    simp [okI, e3] at h1
    have hz : x.args.length = 0 := by simp [argsN, e3] at h2; simp [h2]
    exact mkFacts (.inr ha) (.inr hb) (.inl hz) (writes_lt hp (fun _ => (inB_iff.1 h1.1).2)) (fun hn => by omega)
  by_cases e4 : x.op = 4
  · rw [shape4 e4] at ha hb hd
    dsimp only at ha hb hd
    simp [okI, e4] at h1
    have hz : x.args.length = 0 := by simp [argsN, e4] at h2; simp [h2]
    exact mkFacts (.inr ha) (.inr hb) (.inl hz) (writes_lt hp (fun _ => (inB_iff.1 h1.1).2)) (fun hn => by omega)
  by_cases e5 : x.op = 5
  · rw [shape5 e5] at ha hb hd
    dsimp only at ha hb hd
    simp [okI, e5] at h1
    have hz : x.args.length = 0 := by simp [argsN, e5] at h2; simp [h2]
    exact mkFacts (.inl h1.2.1) (.inr hb) (.inl hz) (writes_lt hp (fun _ => (inB_iff.1 h1.1).2)) (fun hn => by omega)
  by_cases e6 : x.op = 6
  · rw [shape6 e6] at ha hb hd
    dsimp only at ha hb hd
    simp [okI, e6] at h1
    have hz : x.args.length = 0 := by simp [argsN, e6] at h2; simp [h2]
    exact mkFacts (.inl h1.1) (.inl h1.2.1) (.inl hz) (writes_lt hp (fun hw => by rw [e6] at hw; cases hw)) (fun hn => by omega)
  by_cases e7 : x.op = 7
  · rw [shape7 e7] at ha hb hd
    dsimp only at ha hb hd
    simp [okI, e7] at h1
    have hz : x.args.length = 0 := by simp [argsN, e7] at h2; simp [h2]
    exact mkFacts (.inl h1.1) (.inl h1.2.1) (.inl hz) (writes_lt hp (fun hw => by rw [e7] at hw; cases hw)) (fun hn => by omega)
  by_cases e8 : x.op = 8
  · rw [shape8 e8] at ha hb hd
    dsimp only at ha hb hd
    simp [okI, e8] at h1
    obtain ⟨h4, h5⟩ := h1
    split at h5
    · rename_i g hg
      unfold callB at h5
      simp only [Bool.and_eq_true, Bool.not_eq_true', Bool.or_eq_false_iff] at h5
      have hW : x.writes < j.f.te := writes_lt hp (fun _ => by
        have h6 := h5.1.1
        by_cases hm : x.d = -1
        · omega
        · have hm' : (x.d != -1) = true := by simpa using hm
          rw [hm'] at h6
          simp only [Bool.true_and, Bool.or_eq_false_iff, Bool.not_eq_false'] at h6
          exact (inB_iff.1 h6.1).2)
      exact mkFacts (.inr ha) (.inr hb) (.inr h5.2) (hW) (fun hn => by omega)
    · cases h5
  by_cases e9 : x.op = 9
  · rw [shape9 e9] at ha hb hd
    dsimp only at ha hb hd
    simp [okI, e9] at h1
    have hz : x.args.length = 0 := by simp [argsN, e9] at h2; simp [h2]
    have hA : argB j.f.te x.a = true ∨ x.a.k = 0 := by
      rcases h1 with h1 | h1
      · exact .inl h1.2
      · exact .inr h1.2.1
    exact mkFacts (hA) (.inr hb) (.inl hz) (writes_lt hp (fun hw => by rw [e9] at hw; cases hw)) (fun hn => by omega)
  by_cases e10 : x.op = 10
  · rw [shape10 e10] at ha hb hd
    dsimp only at ha hb hd
    simp [okI, e10] at h1
    have hz : x.args.length = 0 := by simp [argsN, e10] at h2; simp [h2]
    exact mkFacts (.inr ha) (.inr hb) (.inl hz) (writes_lt hp (fun hw => by rw [e10] at hw; cases hw)) (fun _ => inB_iff.1 h1)
  by_cases e11 : x.op = 11
  · rw [shape11 e11] at ha hb hd
    dsimp only at ha hb hd
    simp [okI, e11] at h1
    have hz : x.args.length = 0 := by simp [argsN, e11] at h2; simp [h2]
    exact mkFacts (.inl h1.2) (.inr hb) (.inl hz) (writes_lt hp (fun hw => by rw [e11] at hw; cases hw)) (fun _ => inB_iff.1 h1.1)
  by_cases e12 : x.op = 12
  · rw [shape12 e12] at ha hb hd
    dsimp only at ha hb hd
    simp [okI, e12] at h1
    have hz : x.args.length = 0 := by simp [argsN, e12] at h2; simp [h2]
    exact mkFacts (.inl h1) (.inr hb) (.inl hz) (writes_lt hp (fun hw => by rw [e12] at hw; cases hw)) (fun hn => by omega)
  by_cases e13 : x.op = 13
  · rw [shape13 e13] at ha hb hd
    dsimp only at ha hb hd
    simp [okI, e13] at h1
    have hz : x.args.length = 0 := by simp [argsN, e13] at h2; simp [h2]
    exact mkFacts (.inr ha) (.inr hb) (.inl hz) (writes_lt hp (fun _ => (inB_iff.1 h1).2)) (fun hn => by omega)
  by_cases e14 : x.op = 14
  · rw [shape14 e14] at ha hb hd
    dsimp only at ha hb hd
    simp [okI, e14] at h1
    have hz : x.args.length = 0 := by simp [argsN, e14] at h2; simp [h2]
    exact mkFacts (.inl h1) (.inr hb) (.inl hz) (writes_lt hp (fun hw => by rw [e14] at hw; cases hw)) (fun hn => by omega)
  simp [okI, e1, e2, e3, e4, e5, e6, e7, e8, e9, e10, e11, e12, e13, e14] at h1
end Go.Proofs.YtpohhfggmaihpaaGreatDoor

/- A string's byte; contracts of the library's that leave more blocks behind. -/
namespace Go.Wk
open Go.Ev
set_option linter.unusedVariables false
set_option linter.unusedSimpArgs false
section
variable {X : Cx} {L : LT} {d : Nat} {x y : Operand} {t ty : TypeId} {p : String} {af : Array Edge}
/-- s[i] of a string. -/
theorem p_idxT {A : ByteArray} {ik : IntKind} {i : Int} {c : UInt8} {z : Value} {s u : Nat} (hx : ev L x = some (.string A)) (hy : ev L y = some (.int ik i)) (ht : tl X.s.tab t = some ⟨.string, z, s, u⟩) (h0 : 0 ≤ i) (hb : A.data.toList[i.toNat]? = some c) :
    PR X.s.P L (⟨some d, .index t x y, ty, p, af, none⟩ : Oper) (.int .u8 c.toNat) := fun ρ w h => by
  have hu := tk_string (X.s.ok.at ht)
  have hlt : i.toNat < A.size := by have := (List.getElem?_eq_some_iff.1 hb).1; simpa using this
  have e : A[i.toNat]? = some c := by
    rw [ByteArray.getElem?_lt' A _ hlt]
    have := (List.getElem?_eq_some_iff.1 hb).2
    rw [← this]; rfl
  simp only [execOp, h x _ hx, h y _ hy]
  simp [Instr.index, asIntOf, run_underlying hu, h0, e]
/-- s[lo:hi]. -/
theorem p_sl {q : Operand} {e : TypeId} {z : Value} {s b : Nat} {te : Ti} {ik ik' : IntKind} {A : Option Addr} {n c lo hi : Nat} (hx : ev L x = some (.slice A n c)) (hy : ev L y = some (.int ik lo)) (hq : ev L q = some (.int ik' hi)) (ht : tl X.s.tab t = some ⟨.slice e, z, s, b⟩) (hte : tl X.s.tab e = some te)
    (h1 : lo ≤ hi) (h2 : hi ≤ c) : PR X.s.P L (⟨some d, .slice t x (some y) (some q) none, ty, p, af, none⟩ : Oper) (.slice (if c = lo then A else A.map (·.add (lo * te.sz))) (hi - lo) (c - lo)) :=
  fun ρ w hv => by
    have hu := tk_slice (X.s.ok.at ht)
    have h3 : (0 : Int) ≤ lo ∧ (lo : Int) ≤ hi := by omega
    have h4 : (0 : Int) ≤ hi ∧ (hi : Int) ≤ c := by omega
    simp only [execOp, Option.map, hv x _ hx, hv y _ hy, hv q _ hq]
    simp [Instr.sliceAt, Instr.slice, run_underlying hu, Instr.sliceBounds, Instr.sliceBound, asIntOf, h3, h4, run_sizeOf (X.s.ok.at hte), h1, h2]
    cases A <;> rfl
theorem Rd.sub {α : Type} {H : Nat → Option Obj} {f : α → List Value} {sz : Nat} {A : Option Addr} {l : List α} (h : Rd H f sz A l) {lo : Nat} (hlt : lo < l.length) (m : Nat) :
    ∃ b o, A = some ⟨b, o, none⟩ ∧ Rd H f sz (some ⟨b, o + lo * sz, none⟩) ((l.drop lo).take m) := by
  obtain ⟨b, o, hA, -⟩ := h lo _ (List.getElem?_eq_getElem hlt)
  refine ⟨b, o, hA, fun i y hy => ?_⟩
  rw [List.getElem?_take] at hy
  split at hy
  · rw [List.getElem?_drop] at hy
    obtain ⟨b2, o2, hA2, hc⟩ := h _ _ hy
    rw [hA] at hA2; cases hA2
    refine ⟨b, o + lo * sz, rfl, fun j u hj => ?_⟩
    have := hc j u hj
    rw [Nat.add_mul] at this
    rw [show o + lo * sz + i * sz + j = o + (lo * sz + i * sz) + j from by omega]
    exact this
  · cases hy
theorem eff_of_below {w w' : World} (h : RowKit.Below w.heap.size w w') : Eff w [] w' [] :=
  ⟨(fun b o hb => by cases hb), List.nodup_nil, (fun b hb => by cases hb), fun b hb _ => h.block b hb, h.size, h.os, h.tape, h.output⟩
end
end Go.Wk

/- The shelf's numbers of strings.Trim and strings.CutPrefix at this translation, as the kit's lay-plain wrote them. -/
namespace Go.Proofs
open Go.Shelf
def Tryz.lays160_ren : Go.Shelf.Ren := ⟨fun | 160 => 76 | 232 => 119 | 231 => 118 | 227 => 120 | 234 => 122 | 233 => 121 | 236 => 124 | 235 => 123 | 228 => 147 | 271 => 150 | 151 => 149 | 197 => 148 | 120 => 170 | 152 => 169 | 260 => 168 | 137 => 110 | 119 => 182 | 224 => 176 | 225 => 175 | 217 => 138 | 266 => 158 | n => n, fun | 9 => 9 | 4 => 4 | 3 => 3 | 5 => 5 | 117 => 164 | 116 => 163 | 0 => 0 | 124 => 167 | 21 => 21 | 105 => 185 | 46 => 105 | 119 => 214 | 139 => 217 | 138 => 216 | n => n, fun | 3 => 4 | 4 => 5 | n => n⟩
theorem Tryz.lays160 : Go.Proofs.Lays.n160 Tryz.prog Tryz.lays160_ren := {
  mixed := by kernel_rfl
  f119 := Tryz.func182.trans (congrArg some (by kernel_rfl))
  f120 := Tryz.func170.trans (congrArg some (by kernel_rfl))
  f137 := Tryz.func110.trans (congrArg some (by kernel_rfl))
  f151 := Tryz.func149.trans (congrArg some (by kernel_rfl))
  f152 := Tryz.func169.trans (congrArg some (by kernel_rfl))
  f160 := Tryz.func76.trans (congrArg some (by kernel_rfl))
  f197 := Tryz.func148.trans (congrArg some (by kernel_rfl))
  f217 := Tryz.func138.trans (congrArg some (by kernel_rfl))
  f224 := Tryz.func176.trans (congrArg some (by kernel_rfl))
  f225 := Tryz.func175.trans (congrArg some (by kernel_rfl))
  f227 := Tryz.func120.trans (congrArg some (by kernel_rfl))
  f228 := Tryz.func147.trans (congrArg some (by kernel_rfl))
  f231 := Tryz.func118.trans (congrArg some (by kernel_rfl))
  f232 := Tryz.func119.trans (congrArg some (by kernel_rfl))
  f233 := Tryz.func121.trans (congrArg some (by kernel_rfl))
  f234 := Tryz.func122.trans (congrArg some (by kernel_rfl))
  f235 := Tryz.func123.trans (congrArg some (by kernel_rfl))
  f236 := Tryz.func124.trans (congrArg some (by kernel_rfl))
  f260 := Tryz.func168.trans (congrArg some (by kernel_rfl))
  f266 := Tryz.func158.trans (congrArg some (by kernel_rfl))
  f271 := Tryz.func150.trans (congrArg some (by kernel_rfl))
  t0 := Tryz.underlying0
  a0 := Tryz.isAgg0
  z0 := Tryz.sizeOf0
  v0 := Tryz.zeroValue0
  t3 := Tryz.underlying3
  a3 := Tryz.isAgg3
  z3 := Tryz.sizeOf3
  v3 := Tryz.zeroValue3
  t4 := Tryz.underlying4
  a4 := Tryz.isAgg4
  z4 := Tryz.sizeOf4
  v4 := Tryz.zeroValue4
  t5 := Tryz.underlying5
  a5 := Tryz.isAgg5
  z5 := Tryz.sizeOf5
  v5 := Tryz.zeroValue5
  t9 := Tryz.underlying9
  a9 := Tryz.isAgg9
  z9 := Tryz.sizeOf9
  v9 := Tryz.zeroValue9
  t21 := Tryz.underlying21
  a21 := Tryz.isAgg21
  z21 := Tryz.sizeOf21
  v21 := Tryz.zeroValue21
  t46 := Tryz.underlying105
  a46 := Tryz.isAgg105
  z46 := Tryz.sizeOf105
  v46 := Tryz.zeroValue105
  t105 := Tryz.underlying185
  a105 := Tryz.isAgg185
  z105 := Tryz.sizeOf185
  v105 := Tryz.zeroValue185
  t116 := Tryz.underlying163
  a116 := Tryz.isAgg163
  z116 := Tryz.sizeOf163
  t117 := Tryz.underlying164
  a117 := Tryz.isAgg164
  z117 := Tryz.sizeOf164
  v117 := Tryz.zeroValue164
  t119 := Tryz.underlying214
  a119 := Tryz.isAgg214
  z119 := Tryz.sizeOf214
  t124 := Tryz.underlying167
  a124 := Tryz.isAgg167
  z124 := Tryz.sizeOf167
  v124 := Tryz.zeroValue167
  t138 := Tryz.underlying216
  a138 := Tryz.isAgg216
  z138 := Tryz.sizeOf216
  v138 := Tryz.zeroValue216
  t139 := Tryz.underlying217
  a139 := Tryz.isAgg217
  z139 := Tryz.sizeOf217
  v139 := Tryz.zeroValue217
  g3 := by kernel_rfl
  g4 := by kernel_rfl }
def Tryz.lays103_ren : Go.Shelf.Ren := ⟨fun | 103 => 75 | 210 => 117 | 206 => 146 | n => n, fun | 9 => 9 | 4 => 4 | 24 => 133 | 3 => 3 | n => n, fun | n => n⟩
theorem Tryz.lays103 : Go.Proofs.Lays.n103 Tryz.prog Tryz.lays103_ren := {
  mixed := by kernel_rfl
  f103 := Tryz.func75.trans (congrArg some (by kernel_rfl))
  f206 := Tryz.func146.trans (congrArg some (by kernel_rfl))
  f210 := Tryz.func117.trans (congrArg some (by kernel_rfl))
  t3 := Tryz.underlying3
  a3 := Tryz.isAgg3
  z3 := Tryz.sizeOf3
  v3 := Tryz.zeroValue3
  t4 := Tryz.underlying4
  a4 := Tryz.isAgg4
  z4 := Tryz.sizeOf4
  v4 := Tryz.zeroValue4
  t9 := Tryz.underlying9
  a9 := Tryz.isAgg9
  z9 := Tryz.sizeOf9
  v9 := Tryz.zeroValue9
  t24 := Tryz.underlying133
  a24 := Tryz.isAgg133
  z24 := Tryz.sizeOf133
  v24 := Tryz.zeroValue133 }
end Go.Proofs

/- ctype: letters, Tag. -/
namespace Go.Proofs.YtpohhfggmaihpaaGreatDoor
open Go.Wk
set_option linter.unusedVariables false
set_option linter.unusedSimpArgs false
attribute [local irreducible] G GC GQ GA GS Exit.then Exit.inBlock

def lowI (c : Int) : Int := IntKind.u8.wrap (BitVec.ofInt 8 c ||| BitVec.ofInt 8 32).toNat
/-- May byte c not stand at place i? -/
def badC (i : Nat) (c : Int) : Bool := (c != 95 && (decide (lowI c < 97) || decide (lowI c > 122))) && (((i : Int) == 0 || decide (c < 48)) || decide (c > 57))
def bytesL (s : ByteArray) : List UInt8 := s.data.toList
def lettersB (s : ByteArray) : Bool := !(bytesL s).isEmpty && (decide ((bytesL s).length ≤ 63) && (List.range (bytesL s).length).all fun i => !badC i (((bytesL s)[i]?).getD 0).toNat)
theorem e0T : (⟨#[]⟩ : ByteArray).toList = [] := by rw [ByteArray.toList_eq]
theorem bytesL_eq (s : ByteArray) : s.toList = bytesL s := by rw [ByteArray.toList_eq]; rfl
theorem empT (s : ByteArray) : (s.toList == (⟨#[]⟩ : ByteArray).toList) = (bytesL s).isEmpty := by
  rw [e0T, bytesL_eq]
  cases bytesL s <;> rfl
theorem size_bytesL (s : ByteArray) : s.size = (bytesL s).length := by unfold bytesL; rw [Array.length_toList]; rfl
set_option maxHeartbeats 4000000 in
theorem letters_sp (s : ByteArray) (w : World) : Sp Tryz.prog 77 [.string s] w [] (fun b : Bool => .bool b) (fun _ => []) (fun b => b = lettersB s) := by
  have hsz := size_bytesL s
  refine enter (s := Tryz.sx) [] Tryz.func77 rfl rfl rfl (Eff.refl w) ?_
  repeat' (first | refine g_pv rfl rfl ?_ | refine g_nil ?_ | refine gq_then ?_ | refine gc_seq ?_ | refine gc_region ?_)
  refine g_p (p_eqT rfl rfl rfl) rfl ?_
  repeat' (refine g_pv rfl rfl ?_)
  refine g_case (t := 7) rfl (fun h1 => ?_) (fun h1 => ?_)
  · repeat' (first | refine g_pv rfl rfl ?_ | refine g_nil ?_ | refine gq_then ?_ | refine gc_seq ?_ | refine gc_region ?_ | refine gc_cond_t rfl ?_ | refine gc_ret ?_ | refine gq_then_ret ?_ | refine g_no rfl rfl rfl rfl rfl ?_)
    refine gq_ret1 (.inr rfl) rfl rfl rfl (fun w' H => ⟨false, ?_, rfl, hp_nil H⟩)
    have h2 : (bytesL s).isEmpty = true := by rw [← empT]; exact h1
    unfold lettersB; rw [h2]; rfl
  have h2 : (bytesL s).isEmpty = false := by rw [← empT]; exact h1
  repeat' (first | refine g_pv rfl rfl ?_ | refine g_nil ?_ | refine gq_then ?_ | refine g_yes rfl rfl rfl ?_)
  refine gc_condC rfl (fun h3 => ?_) (fun h3 => ?_)
  · repeat' (first | refine g_pv rfl rfl ?_ | refine g_nil ?_ | refine gq_then ?_ | refine gc_seq ?_ | refine gc_region ?_ | refine gc_ret ?_ | refine gq_then_ret ?_)
    refine gq_ret1 (.inr rfl) rfl rfl rfl (fun w' H => ⟨false, ?_, rfl, hp_nil H⟩)
    have h4 := of_decide_eq_true h3
    have h5 : decide ((bytesL s).length ≤ 63) = false := decide_eq_false (by omega)
    unfold lettersB; rw [h2, h5]; rfl
  have h4 := of_decide_eq_false h3
  have h5 : decide ((bytesL s).length ≤ 63) = true := decide_eq_true (by omega)
  repeat' (first | refine g_pv rfl rfl ?_ | refine g_nil ?_ | refine gq_then ?_ | refine gc_seq ?_ | refine gc_region ?_ | refine gc_block ?_ | refine gc_skip ?_)
  refine gc_loop (Y := Nat) (fun y => y ≤ (bytesL s).length ∧ ∀ i, i < y → badC i (((bytesL s)[i]?).getD 0).toNat = false)
    (fun y => [(0, .string s), (13, .int .i64 s.size), (14, .int .i64 y)]) (fun y => [])
    (fun y => (bytesL s).length - y) 0 ⟨Nat.zero_le _, fun i hi => absurd hi (Nat.not_lt_zero _)⟩ ⟨rfl, rfl, rfl, trivial⟩ (fun w' H => H) ?_
  rintro k ⟨hk, hb⟩
  dsimp only at hk hb ⊢
  repeat' (first | refine g_pv rfl rfl ?_ | refine g_nil ?_ | refine gq_then ?_ | refine gc_seq ?_ | refine gc_region ?_)
  refine gc_condC rfl (fun hc => ?_) (fun hc => ?_)
  · have hlt : k < (bytesL s).length := by have := of_decide_eq_true hc; omega
    have hx : (bytesL s)[k]? = some ((bytesL s)[k]) := List.getElem?_eq_getElem hlt
    generalize (bytesL s)[k] = c at hx
    repeat' (first | refine g_pv rfl rfl ?_ | refine g_nil ?_ | refine gq_then ?_ | refine gc_seq ?_ | refine gc_region ?_ | refine gc_block ?_ | refine gc_skip ?_)
    refine g_p (p_idxT rfl rfl rfl (Int.natCast_nonneg k) hx) rfl ?_
    repeat' (first | refine g_pv rfl rfl ?_ | refine g_nil ?_ | refine gq_then ?_ | refine gc_seq ?_ | refine gc_region ?_)
    have no : ∀ {b : Bool}, badC k c.toNat = b → badC k (((bytesL s)[k]?).getD 0).toNat = b := fun h => by rw [hx]; exact h
    have again : badC k c.toNat = false → ∀ i, i < k + 1 → badC i (((bytesL s)[i]?).getD 0).toNat = false := fun h i hi => by
      rcases Nat.lt_succ_iff_lt_or_eq.1 hi with h6 | h6
      · exact hb i h6
      · subst h6; exact no h
    have stop : badC k c.toNat = true → lettersB s = false := fun h => by
      unfold lettersB
      have : ((List.range (bytesL s).length).all fun i => !badC i (((bytesL s)[i]?).getD 0).toNat) = false := by
        cases hq : ((List.range (bytesL s).length).all fun i => !badC i (((bytesL s)[i]?).getD 0).toNat) with
        | false => rfl
        | true =>
          have := List.all_eq_true.1 hq k (List.mem_range.2 hlt)
          rw [no h] at this; cases this
      rw [this]; simp
    refine g_case (t := 22) rfl (fun g1 => ?_) (fun g1 => ?_)
    rotate_left
    · have g1 : ((c.toNat : Int) != 95) = false := g1
      repeat' (first | refine g_pv rfl rfl ?_ | refine g_nil ?_ | refine gq_then ?_ | refine gc_region ?_ | refine gc_cond_f rfl ?_ | refine gc_skip ?_ | refine gq_block ?_ | refine g_no rfl rfl rfl rfl rfl ?_)
      refine gq_again (k + 1) ⟨hlt, again (by unfold badC; rw [g1]; rfl)⟩ (by omega) ⟨rfl, rfl, inc_eq (by omega), trivial⟩ (fun w' H => H)
    have g1 : ((c.toNat : Int) != 95) = true := g1
    repeat' (first | refine g_pv rfl rfl ?_ | refine g_yes rfl rfl rfl ?_)
    refine g_case (t := 26) rfl (fun g2 => ?_) (fun g2 => ?_)
    rotate_left
    · have g2 : decide (lowI c.toNat < 97) = false := g2
      repeat' (first | refine g_pv rfl rfl ?_ | refine g_yes rfl rfl rfl ?_)
      refine g_case (t := 32) rfl (fun g3 => ?_) (fun g3 => ?_)
      rotate_left
      · have g3 : decide (lowI c.toNat > 122) = false := g3
        repeat' (first | refine g_pv rfl rfl ?_ | refine g_nil ?_ | refine gq_then ?_ | refine gc_region ?_ | refine gc_cond_f rfl ?_ | refine gc_skip ?_ | refine gq_block ?_ | refine g_no rfl rfl rfl rfl rfl ?_)
        refine gq_again (k + 1) ⟨hlt, again (by unfold badC; rw [g1, g2, g3]; rfl)⟩ (by omega) ⟨rfl, rfl, inc_eq (by omega), trivial⟩ (fun w' H => H)
      have g3 : decide (lowI c.toNat > 122) = true := g3
      repeat' (first | refine g_pv rfl rfl ?_ | refine g_yes rfl rfl rfl ?_)
      refine g_case (t := 35) rfl (fun g4 => ?_) (fun g4 => ?_)
      · have g4 : ((k : Int) == 0) = true := g4
        repeat' (first | refine g_pv rfl rfl ?_ | refine g_nil ?_ | refine gq_then ?_ | refine gc_seq ?_ | refine gc_region ?_ | refine gc_cond_t rfl ?_ | refine gc_ret ?_ | refine gq_then_ret ?_ | refine gq_block_ret ?_ | refine g_yes rfl rfl rfl ?_ | refine g_no rfl rfl rfl rfl rfl ?_)
        refine gq_ret1 (.inr rfl) rfl rfl rfl (fun w' H => ⟨false, ?_, rfl, hp_nil H⟩)
        rw [stop (by unfold badC; rw [g1, g2, g3, g4]; rfl)]
      have g4 : ((k : Int) == 0) = false := g4
      repeat' (first | refine g_pv rfl rfl ?_ | refine g_yes rfl rfl rfl ?_)
      refine g_case (t := 39) rfl (fun g5 => ?_) (fun g5 => ?_)
      · have g5 : decide ((c.toNat : Int) < 48) = true := g5
        repeat' (first | refine g_pv rfl rfl ?_ | refine g_nil ?_ | refine gq_then ?_ | refine gc_seq ?_ | refine gc_region ?_ | refine gc_cond_t rfl ?_ | refine gc_ret ?_ | refine gq_then_ret ?_ | refine gq_block_ret ?_ | refine g_yes rfl rfl rfl ?_ | refine g_no rfl rfl rfl rfl rfl ?_)
        refine gq_ret1 (.inr rfl) rfl rfl rfl (fun w' H => ⟨false, ?_, rfl, hp_nil H⟩)
        rw [stop (by unfold badC; rw [g1, g2, g3, g4, g5]; rfl)]
      have g5 : decide ((c.toNat : Int) < 48) = false := g5
      repeat' (first | refine g_pv rfl rfl ?_ | refine g_nil ?_ | refine gq_then ?_ | refine g_yes rfl rfl rfl ?_)
      refine gc_condC rfl (fun g6 => ?_) (fun g6 => ?_)
      · have g6 : decide ((c.toNat : Int) > 57) = true := g6
        repeat' (first | refine g_pv rfl rfl ?_ | refine g_nil ?_ | refine gq_then ?_ | refine gc_seq ?_ | refine gc_region ?_ | refine gc_ret ?_ | refine gq_then_ret ?_ | refine gq_block_ret ?_)
        refine gq_ret1 (.inr rfl) rfl rfl rfl (fun w' H => ⟨false, ?_, rfl, hp_nil H⟩)
        rw [stop (by unfold badC; rw [g1, g2, g3, g4, g5, g6]; rfl)]
      have g6 : decide ((c.toNat : Int) > 57) = false := g6
      repeat' (first | refine g_pv rfl rfl ?_ | refine g_nil ?_ | refine gq_then ?_ | refine gc_region ?_ | refine gc_skip ?_ | refine gq_block ?_)
      refine gq_again (k + 1) ⟨hlt, again (by unfold badC; rw [g1, g2, g3, g4, g5, g6]; rfl)⟩ (by omega) ⟨rfl, rfl, inc_eq (by omega), trivial⟩ (fun w' H => H)
    have g2 : decide (lowI c.toNat < 97) = true := g2
    repeat' (first | refine g_pv rfl rfl ?_ | refine g_yes rfl rfl rfl ?_ | refine g_no rfl rfl rfl rfl rfl ?_)
    repeat' (fail)
    refine g_case (t := 35) rfl (fun g4 => ?_) (fun g4 => ?_)
    · have g4 : ((k : Int) == 0) = true := g4
      repeat' (first | refine g_pv rfl rfl ?_ | refine g_nil ?_ | refine gq_then ?_ | refine gc_seq ?_ | refine gc_region ?_ | refine gc_cond_t rfl ?_ | refine gc_ret ?_ | refine gq_then_ret ?_ | refine gq_block_ret ?_ | refine g_yes rfl rfl rfl ?_ | refine g_no rfl rfl rfl rfl rfl ?_)
      refine gq_ret1 (.inr rfl) rfl rfl rfl (fun w' H => ⟨false, ?_, rfl, hp_nil H⟩)
      rw [stop (by unfold badC; rw [g1, g2, g4]; rfl)]
    have g4 : ((k : Int) == 0) = false := g4
    repeat' (first | refine g_pv rfl rfl ?_ | refine g_yes rfl rfl rfl ?_)
    refine g_case (t := 39) rfl (fun g5 => ?_) (fun g5 => ?_)
    · have g5 : decide ((c.toNat : Int) < 48) = true := g5
      repeat' (first | refine g_pv rfl rfl ?_ | refine g_nil ?_ | refine gq_then ?_ | refine gc_seq ?_ | refine gc_region ?_ | refine gc_cond_t rfl ?_ | refine gc_ret ?_ | refine gq_then_ret ?_ | refine gq_block_ret ?_ | refine g_yes rfl rfl rfl ?_ | refine g_no rfl rfl rfl rfl rfl ?_)
      refine gq_ret1 (.inr rfl) rfl rfl rfl (fun w' H => ⟨false, ?_, rfl, hp_nil H⟩)
      rw [stop (by unfold badC; rw [g1, g2, g4, g5]; rfl)]
    have g5 : decide ((c.toNat : Int) < 48) = false := g5
    repeat' (first | refine g_pv rfl rfl ?_ | refine g_nil ?_ | refine gq_then ?_ | refine g_yes rfl rfl rfl ?_)
    refine gc_condC rfl (fun g6 => ?_) (fun g6 => ?_)
    · have g6 : decide ((c.toNat : Int) > 57) = true := g6
      repeat' (first | refine g_pv rfl rfl ?_ | refine g_nil ?_ | refine gq_then ?_ | refine gc_seq ?_ | refine gc_region ?_ | refine gc_ret ?_ | refine gq_then_ret ?_ | refine gq_block_ret ?_)
      refine gq_ret1 (.inr rfl) rfl rfl rfl (fun w' H => ⟨false, ?_, rfl, hp_nil H⟩)
      rw [stop (by unfold badC; rw [g1, g2, g4, g5, g6]; rfl)]
    have g6 : decide ((c.toNat : Int) > 57) = false := g6
    repeat' (first | refine g_pv rfl rfl ?_ | refine g_nil ?_ | refine gq_then ?_ | refine gc_region ?_ | refine gc_skip ?_ | refine gq_block ?_)
    refine gq_again (k + 1) ⟨hlt, again (by unfold badC; rw [g1, g2, g4, g5, g6]; rfl)⟩ (by omega) ⟨rfl, rfl, inc_eq (by omega), trivial⟩ (fun w' H => H)
  · have hge : k = (bytesL s).length := by have := of_decide_eq_false hc; omega
    repeat' (first | refine g_pv rfl rfl ?_ | refine g_nil ?_ | refine gq_then ?_ | refine gc_seq ?_ | refine gc_region ?_ | refine gc_exit ?_ | refine gc_ret ?_ | refine gq_then_exit ?_ | refine gq_block_exit ?_)
    refine gq_ret1 (.inr rfl) rfl rfl rfl (fun w' H => ⟨true, ?_, rfl, hp_nil H⟩)
    have h6 : ((List.range (bytesL s).length).all fun i => !badC i (((bytesL s)[i]?).getD 0).toNat) = true := List.all_eq_true.2 (fun i hi => by
      rw [hb i (by rw [hge]; exact List.mem_range.1 hi)]; rfl)
    unfold lettersB; rw [h2, h5, h6]; rfl

def digits10 : List UInt8 := [48, 49, 50, 51, 52, 53, 54, 55, 56, 57]
def tagB (s : ByteArray) : Bool := if Lib.hasPrefix (bytesL s) [35] then !(Lib.trimPrefix (bytesL s) [35]).isEmpty && (decide ((Lib.trimPrefix (bytesL s) [35]).length ≤ 9) && (Lib.trimS (Lib.trimPrefix (bytesL s) [35]) digits10).isEmpty) else lettersB s
theorem cutPrefix_sp (s p : ByteArray) (w : World) : Sp Tryz.prog 75 [.string s, .string p] w [] (fun q : ByteArray × Bool => .tuple #[.string q.1, .bool q.2]) (fun _ => []) (fun q => bytesL q.1 = Lib.trimPrefix (bytesL s) (bytesL p) ∧ q.2 = Lib.hasPrefix (bytesL s) (bytesL p)) := by
  refine Calls.mono (Any.strings_CutPrefix Tryz.lays103 s p w) ?_
  rintro e w' ⟨he, rfl⟩
  exact ⟨(⟨(Lib.trimPrefix s.data.toList p.data.toList).toArray⟩, _), ⟨rfl, rfl⟩, he, Eff.refl _⟩
theorem trim_sp (s : ByteArray) (w : World) (hs : s.size ≤ 9223372036854775807) : Sp Tryz.prog 76 [.string s, .string ⟨#[48, 49, 50, 51, 52, 53, 54, 55, 56, 57]⟩] w [] (fun q : ByteArray => .string q) (fun _ => []) (fun q => bytesL q = Lib.trimS (bytesL s) digits10) := by
  refine Calls.mono (Any.strings_Trim_laid Tryz.lays160 (by kernel_rfl) s ⟨#[48, 49, 50, 51, 52, 53, 54, 55, 56, 57]⟩ w hs (by decide) (ascii_of_all (by decide))) ?_
  rintro e w' ⟨he, hB⟩
  exact ⟨_, rfl, he, eff_of_below hB⟩
theorem tag_sp (s : ByteArray) (w : World) : Sp Tryz.prog 43 [.string s] w [] (fun b : Bool => .bool b) (fun _ => []) (fun b => b = tagB s) := by
  refine enter (s := Tryz.sx) [] Tryz.func43 rfl rfl rfl (Eff.refl w) ?_
  repeat' (first | refine g_pv rfl rfl ?_ | refine g_nil ?_ | refine gq_then ?_ | refine gc_seq ?_ | refine gc_region ?_)
  refine g_call rfl (Cl.of Tryz.func75 rfl rfl) rfl rfl (fun w' hE => cutPrefix_sp s ⟨#[35]⟩ w') rfl ?_
  rintro ⟨q, hp⟩ ⟨hq, hh⟩
  dsimp only at hq hh ⊢
  have hh : hp = Lib.hasPrefix (bytesL s) [35] := hh
  have hq : bytesL q = Lib.trimPrefix (bytesL s) [35] := hq
  repeat' (first | refine g_pv rfl rfl ?_ | refine g_nil ?_ | refine gq_then ?_ | refine gc_seq ?_ | refine gc_region ?_)
  cases hp
  · repeat' (first | refine g_pv rfl rfl ?_ | refine gq_then ?_ | refine gc_seq ?_ | refine gc_region ?_ | refine gc_cond_f rfl ?_ | refine gc_skip ?_)
    refine g_call rfl (Cl.of Tryz.func77 rfl rfl) rfl rfl (fun w' hE => letters_sp s w') rfl ?_
    rintro b hb
    repeat' (first | refine g_pv rfl rfl ?_ | refine g_nil ?_ | refine gq_then ?_ | refine gc_ret ?_)
    refine gq_ret1 (.inr rfl) rfl rfl rfl (fun w' H => ⟨b, ?_, rfl, hp_nil H⟩)
    unfold tagB
    rw [← hh, if_neg (by decide)]
    exact hb
  have hd : tagB s = (!(bytesL q).isEmpty && (decide ((bytesL q).length ≤ 9) && (Lib.trimS (bytesL q) digits10).isEmpty)) := by unfold tagB; rw [← hh, if_pos rfl, hq]
  have hsz := size_bytesL q
  repeat' (first | refine g_pv rfl rfl ?_ | refine gc_seq ?_ | refine gc_region ?_ | refine gc_cond_t rfl ?_)
  refine g_p (p_neT rfl rfl rfl) rfl ?_
  repeat' (refine g_pv rfl rfl ?_)
  refine g_case (t := 13) rfl (fun h1 => ?_) (fun h1 => ?_)
  rotate_left
  · have h1 : (!(q.toList == (⟨#[]⟩ : ByteArray).toList)) = false := h1
    rw [empT] at h1
    repeat' (first | refine g_pv rfl rfl ?_ | refine g_nil ?_ | refine gq_then ?_ | refine gc_ret ?_ | refine gq_then_ret ?_ | refine g_no rfl rfl rfl rfl rfl ?_)
    refine gq_ret1 (.inr rfl) rfl rfl rfl (fun w' H => ⟨false, ?_, rfl, hp_nil H⟩)
    rw [hd, h1]; rfl
  have h1 : (!(q.toList == (⟨#[]⟩ : ByteArray).toList)) = true := h1
  rw [empT] at h1
  repeat' (first | refine g_pv rfl rfl ?_ | refine g_yes rfl rfl rfl ?_)
  refine g_case (t := 18) rfl (fun h2 => ?_) (fun h2 => ?_)
  rotate_left
  · have h3 := of_decide_eq_false h2
    repeat' (first | refine g_pv rfl rfl ?_ | refine g_nil ?_ | refine gq_then ?_ | refine gc_ret ?_ | refine gq_then_ret ?_ | refine g_no rfl rfl rfl rfl rfl ?_)
    refine gq_ret1 (.inr rfl) rfl rfl rfl (fun w' H => ⟨false, ?_, rfl, hp_nil H⟩)
    rw [hd, h1, decide_eq_false (by omega)]; rfl
  have h3 := of_decide_eq_true h2
  repeat' (first | refine g_pv rfl rfl ?_ | refine g_yes rfl rfl rfl ?_)
  refine g_call rfl (Cl.of Tryz.func76 rfl rfl) rfl rfl (fun w' hE => trim_sp q w' (by omega)) rfl ?_
  rintro r hr
  repeat' (refine g_yes rfl rfl rfl ?_)
  refine g_p (p_eqT rfl rfl rfl) rfl ?_
  repeat' (first | refine g_pv rfl rfl ?_ | refine g_nil ?_ | refine gq_then ?_ | refine gc_ret ?_ | refine gq_then_ret ?_)
  refine gq_ret1 (.inr rfl) rfl rfl rfl (fun w' H => ⟨_, ?_, rfl, hp_nil H⟩)
  rw [hd, h1, decide_eq_true (by omega), empT, hr]; rfl
end Go.Proofs.YtpohhfggmaihpaaGreatDoor

/- slices.Max at []byte. -/
namespace Go.Proofs.YtpohhfggmaihpaaGreatDoor
open Go.Wk
set_option linter.unusedVariables false
set_option linter.unusedSimpArgs false
attribute [local irreducible] G GC GQ GA GS Exit.then Exit.inBlock

def maxL : List Int → Int
  | [] => 0
  | x :: r => r.foldl (fun m y => if y > m then y else m) x
theorem maxL_app {l : List Int} (h : l ≠ []) (x : Int) : maxL (l ++ [x]) = if x > maxL l then x else maxL l := by
  cases l with
  | nil => exact absurd rfl h
  | cons a r => simp only [List.cons_append, maxL, List.foldl_append, List.foldl_cons, List.foldl_nil]; rfl
theorem max_sp (l : List Int) (A : Option Addr) (cap : Nat) (w : World) (hr : Rd (hw w) fB 1 A l) (hl : 0 < l.length) (hs : l.length ≤ 4611686018427387904) :
    Sp Tryz.prog 45 [.slice A l.length cap] w [] (fun m : Int => .int .u8 m) (fun _ => []) (fun m => m = maxL l) := by
  refine enter (s := Tryz.sx) [] Tryz.func45 rfl rfl rfl (Eff.refl w) ?_
  repeat' (first | refine g_pv rfl rfl ?_ | refine g_nil ?_ | refine gq_then ?_ | refine gc_seq ?_ | refine gc_region ?_)
  refine gc_condC rfl (fun h1 => ?_) (fun h1 => ?_)
  · have := of_decide_eq_true h1
    exact absurd this (by omega)
  have hx0 : l[0]? = some (l[0]'hl) := List.getElem?_eq_getElem hl
  have ht1 : l.take 1 = [l[0]'hl] := by rw [List.take_succ_eq_append_getElem hl]; rfl
  generalize l[0]'hl = x0 at hx0 ht1
  repeat' (first | refine g_pv rfl rfl ?_ | refine gq_then ?_ | refine gc_seq ?_ | refine gc_region ?_ | refine gc_skip ?_)
  refine g_at (l := l) (f := fB) (u := x0) rfl rfl rfl rfl rfl (Int.le_refl 0) (by omega) (hr.le (old_le0 _ w)) hx0 rfl rfl rfl rfl (fun a => ?_)
  repeat' (first | refine g_pv rfl rfl ?_ | refine g_nil ?_ | refine gq_then ?_ | refine gc_seq ?_ | refine gc_region ?_ | refine gc_block ?_)
  refine gc_loop (Y := Nat) (fun y => 1 ≤ y ∧ y ≤ l.length)
    (fun y => [(0, .slice A l.length cap), (3, .int .u8 (maxL (l.take y))), (4, .int .i64 y)]) (fun y => [])
    (fun y => l.length - y) 1 ⟨Nat.le_refl _, hl⟩ ⟨rfl, by rw [ht1]; rfl, rfl, trivial⟩ (fun w' H => H) ?_
  rintro k ⟨hk1, hk⟩
  dsimp only at hk1 hk ⊢
  repeat' (first | refine g_pv rfl rfl ?_ | refine g_nil ?_ | refine gq_then ?_ | refine gc_seq ?_ | refine gc_region ?_)
  refine gc_condC rfl (fun hc => ?_) (fun hc => ?_)
  · have hlt : k < l.length := by have := of_decide_eq_true hc; omega
    have hx : l[k]? = some l[k] := List.getElem?_eq_getElem hlt
    have hm : maxL (l.take (k + 1)) = if l[k] > maxL (l.take k) then l[k] else maxL (l.take k) := by
      rw [List.take_succ_eq_append_getElem hlt]
      exact maxL_app (by intro h; have h2 : (l.take k).length = 0 := (by rw [h]; rfl); rw [List.length_take] at h2; omega) _
    generalize l[k] = x at hx hm
    repeat' (first | refine g_pv rfl rfl ?_ | refine gq_then ?_ | refine gc_seq ?_ | refine gc_region ?_ | refine gc_block ?_ | refine gc_skip ?_)
    refine g_at (l := l) (f := fB) (u := x) rfl rfl rfl rfl rfl (Int.natCast_nonneg k) (by omega) (hr.le (old_le0 _ w)) hx rfl rfl rfl rfl (fun a => ?_)
    repeat' (first | refine g_pv rfl rfl ?_ | refine g_nil ?_ | refine gq_then ?_ | refine gc_region ?_ | refine gq_block ?_)
    exact gq_again (k + 1) ⟨by omega, hlt⟩ (by omega) ⟨rfl, by rw [hm]; rfl, inc_eq (by omega), trivial⟩ (fun w' H => hp_nil H)
  · have hge : k = l.length := by have := of_decide_eq_false hc; omega
    repeat' (first | refine g_pv rfl rfl ?_ | refine g_nil ?_ | refine gq_then ?_ | refine gc_seq ?_ | refine gc_region ?_ | refine gc_exit ?_ | refine gc_ret ?_ | refine gq_then_exit ?_ | refine gq_block_exit ?_)
    exact gq_ret1 (.inr rfl) rfl rfl rfl (fun w' H => ⟨_, by rw [hge, List.take_length], rfl, hp_nil H⟩)
end Go.Proofs.YtpohhfggmaihpaaGreatDoor

/- tac's judge: object. -/
namespace Go.Proofs.YtpohhfggmaihpaaGreatDoor
open Go.Wk
set_option linter.unusedVariables false
set_option linter.unusedSimpArgs false
attribute [local irreducible] G GC GQ GA GS Exit.then Exit.inBlock

/-- May a relocation be, none of which may lie ahead of fr? -/
def relB (j : Jg) (o : Ob) (fr : Int) (r : Rel) : Bool :=
  o.align == 4 && (!decide (r.off < fr) && (r.off.tmod 4 == 0 && (!decide (r.off > IntKind.i64.wrap (o.size - 4)) && (inB r.gl j.p.obs.length && (!decide (r.add < 0) && ((match j.p.obs[r.gl.toNat]? with | some q => !decide (r.add > q.size) | none => false) && maxL ((o.bytes.drop r.off.toNat).take 4) == 0))))))
def relsB (j : Jg) (o : Ob) : Int → List Rel → Bool
  | _, [] => true
  | fr, r :: t => relB j o fr r && relsB j o (r.off + 4) t
def objB (j : Jg) (o : Ob) : Bool := tagB o.nm && (!decide (o.size < 1) && (!decide (o.size > 16384) && (powB o.align && ((o.bytes.length : Int) == o.size && relsB j o 0 o.rels))))
theorem relsB_no {j : Jg} {o : Ob} {fr : Int} {r : Rel} {t : List Rel} (h : relB j o fr r = false) : relsB j o fr (r :: t) = false := by simp [relsB, h]
theorem relsB_yes {j : Jg} {o : Ob} {fr : Int} {r : Rel} {t : List Rel} (h : relB j o fr r = true) : relsB j o fr (r :: t) = relsB j o (r.off + 4) t := by simp [relsB, h]

set_option maxHeartbeats 16000000 in
theorem object_sp (j : Jg) (o : Ob) (w : World) (hj : JgIn (hw w) j) (ho : ObIn (hw w) o) : Sp Tryz.prog 24 [j.val, o.val] w [] (fun b : Bool => .bool b) (fun _ => []) (fun b => b = objB j o) := by
  refine enter (s := Tryz.sx) [] Tryz.func24 rfl rfl rfl (Eff.refl w) ?_
  repeat' (first | refine g_pv rfl rfl ?_ | refine g_ld 0 rfl rfl rfl rfl rfl rfl ?_ | refine g_nil ?_ | refine gq_then ?_ | refine gc_seq ?_ | refine gc_region ?_ | refine g_box rfl rfl (fun _ => ?_))
  rename_i b2 b3
  refine g_call rfl (Cl.of Tryz.func43 rfl rfl) rfl rfl (fun w' hE => tag_sp o.nm w') rfl ?_
  rintro t1 ht1
  repeat' (refine g_pv rfl rfl ?_)
  cases t1
  · repeat' (first | refine g_pv rfl rfl ?_ | refine g_nil ?_ | refine gq_then ?_ | refine gc_seq ?_ | refine gc_region ?_ | refine gc_cond_t rfl ?_ | refine gc_ret ?_ | refine gq_then_ret ?_ | refine g_no rfl rfl rfl rfl rfl ?_)
    refine gq_ret1 (.inr rfl) rfl rfl rfl (fun w' H => ⟨false, ?_, rfl, hp_nil H⟩)
    unfold objB; rw [← ht1]; rfl
  repeat' (first | refine g_pv rfl rfl ?_ | refine g_ld 0 rfl rfl rfl rfl rfl rfl ?_ | refine g_yes rfl rfl rfl ?_)
  refine g_case (t := 17) rfl (fun h1 => ?_) (fun h1 => ?_)
  · repeat' (first | refine g_pv rfl rfl ?_ | refine g_nil ?_ | refine gq_then ?_ | refine gc_seq ?_ | refine gc_region ?_ | refine gc_cond_t rfl ?_ | refine gc_ret ?_ | refine gq_then_ret ?_ | refine g_no rfl rfl rfl rfl rfl ?_)
    refine gq_ret1 (.inr rfl) rfl rfl rfl (fun w' H => ⟨false, ?_, rfl, hp_nil H⟩)
    unfold objB; rw [← ht1, h1]; rfl
  repeat' (first | refine g_pv rfl rfl ?_ | refine g_ld 0 rfl rfl rfl rfl rfl rfl ?_ | refine g_yes rfl rfl rfl ?_)
  refine g_case (t := 22) rfl (fun h2 => ?_) (fun h2 => ?_)
  · repeat' (first | refine g_pv rfl rfl ?_ | refine g_nil ?_ | refine gq_then ?_ | refine gc_seq ?_ | refine gc_region ?_ | refine gc_cond_t rfl ?_ | refine gc_ret ?_ | refine gq_then_ret ?_ | refine g_no rfl rfl rfl rfl rfl ?_)
    refine gq_ret1 (.inr rfl) rfl rfl rfl (fun w' H => ⟨false, ?_, rfl, hp_nil H⟩)
    unfold objB; rw [← ht1, h1, h2]; rfl
  repeat' (first | refine g_pv rfl rfl ?_ | refine g_ld 0 rfl rfl rfl rfl rfl rfl ?_ | refine g_yes rfl rfl rfl ?_)
  refine g_call rfl (Cl.of Tryz.func44 rfl rfl) rfl rfl (fun w' hE => power_sp o.align w') rfl ?_
  rintro t3 ht3
  have ht3 : t3 = powB o.align := ht3
  repeat' (first | refine g_pv rfl rfl ?_ | refine g_yes rfl rfl rfl ?_)
  cases t3
  · repeat' (first | refine g_pv rfl rfl ?_ | refine g_nil ?_ | refine gq_then ?_ | refine gc_seq ?_ | refine gc_region ?_ | refine gc_cond_t rfl ?_ | refine gc_ret ?_ | refine gq_then_ret ?_ | refine g_no rfl rfl rfl rfl rfl ?_)
    refine gq_ret1 (.inr rfl) rfl rfl rfl (fun w' H => ⟨false, ?_, rfl, hp_nil H⟩)
    unfold objB; rw [← ht1, h1, h2, ← ht3]; rfl
  repeat' (first | refine g_pv rfl rfl ?_ | refine g_ld 0 rfl rfl rfl rfl rfl rfl ?_ | refine g_nil ?_ | refine gq_then ?_ | refine g_yes rfl rfl rfl ?_)
  refine gc_condC rfl (fun h4 => ?_) (fun h4 => ?_)
  · repeat' (first | refine g_pv rfl rfl ?_ | refine g_nil ?_ | refine gq_then ?_ | refine gc_seq ?_ | refine gc_region ?_ | refine gc_ret ?_ | refine gq_then_ret ?_)
    refine gq_ret1 (.inr rfl) rfl rfl rfl (fun w' H => ⟨false, ?_, rfl, hp_nil H⟩)
    have h4' : ((o.bytes.length : Int) == o.size) = false := by simpa using h4
    unfold objB; rw [← ht1, h1, h2, ← ht3, h4']; rfl
  have h4' : ((o.bytes.length : Int) == o.size) = true := by simpa using h4
  have hsz : (o.bytes.length : Int) = o.size := beq_iff_eq.1 h4'
  have hs1 := of_decide_eq_false h1
  have hs2 := of_decide_eq_false h2
  have hO : objB j o = relsB j o 0 o.rels := by unfold objB; rw [← ht1, h1, h2, ← ht3, h4']; rfl
  repeat' (first | refine g_pv rfl rfl ?_ | refine g_ld 0 rfl rfl rfl rfl rfl rfl ?_ | refine g_nil ?_ | refine gq_then ?_ | refine gc_seq ?_ | refine gc_region ?_ | refine gc_block ?_ | refine gc_skip ?_)
  refine gc_loop (Y := Nat × Int) (fun y => y.1 ≤ o.rels.length ∧ 0 ≤ y.2 ∧ y.2 ≤ 16384 ∧ relsB j o 0 o.rels = relsB j o y.2 (o.rels.drop y.1))
    (fun y => [(2, .pointer (some ⟨b2, 0, none⟩)), (3, .pointer (some ⟨b3, 0, none⟩)), (39, .slice o.rA o.rels.length o.rC), (40, .int .i64 o.rels.length), (41, .int .i64 y.1), (5, .int .i64 y.2)])
    (fun y => [[(b3, .cells ⟨o.cells⟩ 66 (0, 0))], [(b2, .cells ⟨j.cells⟩ 59 (0, 0))]])
    (fun y => o.rels.length - y.1) (0, 0) ⟨Nat.zero_le _, Int.le_refl _, by decide, rfl⟩ ⟨rfl, rfl, rfl, rfl, rfl, rfl, trivial⟩ (fun w' H => H) ?_
  rintro ⟨k, fr⟩ ⟨hk, hf0, hf1, hR⟩
  have hrlen := ho.rlen
  dsimp only at hk hf0 hf1 hR ⊢
  repeat' (first | refine g_pv rfl rfl ?_ | refine g_nil ?_ | refine gq_then ?_ | refine gc_seq ?_ | refine gc_region ?_)
  refine gc_condC rfl (fun hc => ?_) (fun hc => ?_)
  rotate_left
  · have hge : k = o.rels.length := by have := of_decide_eq_false hc; omega
    repeat' (first | refine g_pv rfl rfl ?_ | refine g_nil ?_ | refine gq_then ?_ | refine gc_seq ?_ | refine gc_region ?_ | refine gc_exit ?_ | refine gc_ret ?_ | refine gq_then_exit ?_ | refine gq_block_exit ?_)
    refine gq_ret1 (.inr rfl) rfl rfl rfl (fun w' H => ⟨true, ?_, rfl, hp_nil H⟩)
    rw [hO, hR, hge, List.drop_length]; rfl
  have hlt : k < o.rels.length := by have := of_decide_eq_true hc; omega
  have hx : o.rels[k]? = some (o.rels[k]) := List.getElem?_eq_getElem hlt
  have hd : o.rels.drop k = o.rels[k] :: o.rels.drop (k + 1) := List.drop_eq_getElem_cons hlt
  have hr := ho.rs _ (List.getElem_mem hlt)
  generalize o.rels[k] = r at hx hd hr
  rw [hd] at hR
  repeat' (first | refine gq_then ?_ | refine gc_seq ?_ | refine gc_region ?_ | refine gc_block ?_ | refine gc_skip ?_)
  refine g_at (l := o.rels) (f := Rel.cells) (u := r) rfl rfl rfl rfl rfl (Int.natCast_nonneg k) (by omega) (ho.rels.le (old_le0 _ w)) hx rfl rfl rfl rfl (fun a => ?_)
  repeat' (first | refine g_nil ?_ | refine gq_then ?_ | refine g_alloc rfl rfl (fun _ => ?_) | refine g_st 0 rfl rfl rfl rfl rfl rfl rfl ?_)
  rename_i b7
  refine gc_heap (R' := [[(b7, .cells ⟨r.cells⟩ 78 (0, 0))], [(b3, .cells ⟨o.cells⟩ 66 (0, 0))], [(b2, .cells ⟨j.cells⟩ 59 (0, 0))]]) (fun w H => H) ?_
  repeat' (first | refine g_pv rfl rfl ?_ | refine g_ld 1 rfl rfl rfl rfl rfl rfl ?_ | refine gc_seq ?_ | refine gc_region ?_)
  refine g_case (t := 48) rfl (fun g1 => ?_) (fun g1 => ?_)
  · have g1' : (o.align == 4) = false := by simpa using g1
    repeat' (first | refine g_pv rfl rfl ?_ | refine g_nil ?_ | refine gq_then ?_ | refine gc_seq ?_ | refine gc_region ?_ | refine gc_cond_t rfl ?_ | refine gc_ret ?_ | refine gq_then_ret ?_ | refine gq_block_ret ?_ | refine g_no rfl rfl rfl rfl rfl ?_)
    refine gq_ret1 (.inr rfl) rfl rfl rfl (fun w' H => ⟨false, ?_, rfl, hp_nil H⟩)
    rw [hO, hR, relsB_no (by unfold relB; rw [g1']; rfl)]
  have g1' : (o.align == 4) = true := by simpa using g1
  repeat' (first | refine g_pv rfl rfl ?_ | refine g_ld 0 rfl rfl rfl rfl rfl rfl ?_ | refine g_yes rfl rfl rfl ?_)
  refine g_case (t := 54) rfl (fun g2 => ?_) (fun g2 => ?_)
  · have g2 : decide (r.off < fr) = true := g2
    repeat' (first | refine g_pv rfl rfl ?_ | refine g_nil ?_ | refine gq_then ?_ | refine gc_seq ?_ | refine gc_region ?_ | refine gc_cond_t rfl ?_ | refine gc_ret ?_ | refine gq_then_ret ?_ | refine gq_block_ret ?_ | refine g_no rfl rfl rfl rfl rfl ?_)
    refine gq_ret1 (.inr rfl) rfl rfl rfl (fun w' H => ⟨false, ?_, rfl, hp_nil H⟩)
    rw [hO, hR, relsB_no (by unfold relB; rw [g1', g2]; rfl)]
  have g2 : decide (r.off < fr) = false := g2
  repeat' (first | refine g_pv rfl rfl ?_ | refine g_ld 0 rfl rfl rfl rfl rfl rfl ?_ | refine g_yes rfl rfl rfl ?_)
  refine g_p (p_rem rfl rfl (by decide)) rfl ?_
  repeat' (first | refine g_pv rfl rfl ?_ | refine g_yes rfl rfl rfl ?_)
  refine g_case (t := 60) rfl (fun g3 => ?_) (fun g3 => ?_)
  · have g3' : (r.off.tmod 4 == 0) = false := by simpa using g3
    repeat' (first | refine g_pv rfl rfl ?_ | refine g_nil ?_ | refine gq_then ?_ | refine gc_seq ?_ | refine gc_region ?_ | refine gc_cond_t rfl ?_ | refine gc_ret ?_ | refine gq_then_ret ?_ | refine gq_block_ret ?_ | refine g_no rfl rfl rfl rfl rfl ?_)
    refine gq_ret1 (.inr rfl) rfl rfl rfl (fun w' H => ⟨false, ?_, rfl, hp_nil H⟩)
    rw [hO, hR, relsB_no (by unfold relB; rw [g1', g2, g3']; rfl)]
  have g3' : (r.off.tmod 4 == 0) = true := by simpa using g3
  repeat' (first | refine g_pv rfl rfl ?_ | refine g_ld 0 rfl rfl rfl rfl rfl rfl ?_ | refine g_ld 1 rfl rfl rfl rfl rfl rfl ?_ | refine g_yes rfl rfl rfl ?_)
  refine g_case (t := 68) rfl (fun g4 => ?_) (fun g4 => ?_)
  · have g4 : decide (r.off > IntKind.i64.wrap (o.size - 4)) = true := g4
    repeat' (first | refine g_pv rfl rfl ?_ | refine g_nil ?_ | refine gq_then ?_ | refine gc_seq ?_ | refine gc_region ?_ | refine gc_cond_t rfl ?_ | refine gc_ret ?_ | refine gq_then_ret ?_ | refine gq_block_ret ?_ | refine g_no rfl rfl rfl rfl rfl ?_)
    refine gq_ret1 (.inr rfl) rfl rfl rfl (fun w' H => ⟨false, ?_, rfl, hp_nil H⟩)
    rw [hO, hR, relsB_no (by unfold relB; rw [g1', g2, g3', g4]; rfl)]
  have g4 : decide (r.off > IntKind.i64.wrap (o.size - 4)) = false := g4
  repeat' (first | refine g_pv rfl rfl ?_ | refine g_ld 0 rfl rfl rfl rfl rfl rfl ?_ | refine g_ld 2 rfl rfl rfl rfl rfl rfl ?_ | refine g_yes rfl rfl rfl ?_)
  refine g_call rfl (Cl.of Tryz.func23 rfl rfl) rfl rfl (fun w' hE => within_sp r.gl j.p.obs.length w') rfl (fun _ _ => ?_)
  repeat' (first | refine g_pv rfl rfl ?_ | refine g_nil ?_ | refine gq_then ?_ | refine g_yes rfl rfl rfl ?_)
  refine gc_condC rfl (fun g5 => ?_) (fun g5 => ?_)
  · have g5' : inB r.gl j.p.obs.length = false := (Bool.not_eq_true' _).mp g5
    repeat' (first | refine g_pv rfl rfl ?_ | refine g_nil ?_ | refine gq_then ?_ | refine gc_seq ?_ | refine gc_region ?_ | refine gc_ret ?_ | refine gq_then_ret ?_ | refine gq_block_ret ?_)
    refine gq_ret1 (.inr rfl) rfl rfl rfl (fun w' H => ⟨false, ?_, rfl, hp_nil H⟩)
    rw [hO, hR, relsB_no (by unfold relB; rw [g1', g2, g3', g4, g5']; rfl)]
  have g5' : inB r.gl j.p.obs.length = true := by simpa [inB] using g5
  have hb5 : 0 ≤ r.gl ∧ r.gl < j.p.obs.length := by simpa [inB] using g5'
  have hlx : j.p.obs[r.gl.toNat]? = some (j.p.obs[r.gl.toNat]'(by omega)) := List.getElem?_eq_getElem (by omega)
  generalize j.p.obs[r.gl.toNat]'(by omega) = q at hlx
  obtain ⟨bb, oo, hA, hcq⟩ := hj.p.obs r.gl.toNat _ hlx
  have hoff0 : 0 ≤ r.off := by have := of_decide_eq_false g2; omega
  have hoff1 : r.off + 4 ≤ o.bytes.length := by
    have h8 := of_decide_eq_false g4
    rw [show IntKind.i64.wrap (o.size - 4) = o.size - 4 from by rw [IntKind.wrap_i64]; omega] at h8
    omega
  repeat' (first | refine gq_then ?_ | refine gc_seq ?_ | refine gc_skip ?_)
  refine gc_draw [[(b7, .cells ⟨r.cells⟩ 78 (0, 0))], [(b3, .cells ⟨o.cells⟩ 66 (0, 0))], [(b2, .cells ⟨j.cells⟩ 59 (0, 0))]] [] rfl (List.Perm.of_eq rfl) ?_
  (refine ga_p 0 (by repeat first | exact NoP.sp | apply NoP.then | apply NoP.block) rfl (pv_spec rfl) rfl (by kernel_rfl) (by kernel_rfl) (by kernel_rfl) ?_); (refine ga_ld 1 0 (by repeat first | exact NoP.sp | apply NoP.then | apply NoP.block) rfl wanted_none rfl rfl rfl rfl rfl rfl (by kernel_rfl) (by kernel_rfl) (by kernel_rfl) ?_); (refine ga_p 2 (by repeat first | exact NoP.sp | apply NoP.then | apply NoP.block) rfl (pv_spec rfl) rfl (by kernel_rfl) (by kernel_rfl) (by kernel_rfl) ?_); (refine ga_p 3 (by repeat first | exact NoP.sp | apply NoP.then | apply NoP.block) rfl (pv_spec rfl) rfl (by kernel_rfl) (by kernel_rfl) (by kernel_rfl) ?_)
  refine ga_case (t := 81) rfl (fun g6 => ?_) (fun g6 => ?_)
  · have g6 : decide (r.add < 0) = true := g6
    (refine ga_n 4 (by repeat first | exact NoP.sp | apply NoP.then | apply NoP.block) rfl rfl rfl rfl rfl rfl (by kernel_rfl) (by kernel_rfl) (by kernel_rfl) ?_); (refine ga_n 5 (by repeat first | exact NoP.sp | apply NoP.then | apply NoP.block) rfl rfl rfl rfl rfl rfl (by kernel_rfl) (by kernel_rfl) (by kernel_rfl) ?_); (refine ga_n 6 (by repeat first | exact NoP.sp | apply NoP.then | apply NoP.block) rfl rfl rfl rfl rfl rfl (by kernel_rfl) (by kernel_rfl) (by kernel_rfl) ?_); (refine ga_n 7 (by repeat first | exact NoP.sp | apply NoP.then | apply NoP.block) rfl rfl rfl rfl rfl rfl (by kernel_rfl) (by kernel_rfl) (by kernel_rfl) ?_); (refine ga_n 8 (by repeat first | exact NoP.sp | apply NoP.then | apply NoP.block) rfl rfl rfl rfl rfl rfl (by kernel_rfl) (by kernel_rfl) (by kernel_rfl) ?_); (refine ga_n 9 (by repeat first | exact NoP.sp | apply NoP.then | apply NoP.block) rfl rfl rfl rfl rfl rfl (by kernel_rfl) (by kernel_rfl) (by kernel_rfl) ?_); (refine ga_n 10 (by repeat first | exact NoP.sp | apply NoP.then | apply NoP.block) rfl rfl rfl rfl rfl rfl (by kernel_rfl) (by kernel_rfl) (by kernel_rfl) ?_); (refine ga_n 11 (by repeat first | exact NoP.sp | apply NoP.then | apply NoP.block) rfl rfl rfl rfl rfl rfl (by kernel_rfl) (by kernel_rfl) (by kernel_rfl) ?_); (refine ga_n 12 (by repeat first | exact NoP.sp | apply NoP.then | apply NoP.block) rfl rfl rfl rfl rfl rfl (by kernel_rfl) (by kernel_rfl) (by kernel_rfl) ?_); (refine ga_n 13 (by repeat first | exact NoP.sp | apply NoP.then | apply NoP.block) rfl rfl rfl rfl rfl rfl (by kernel_rfl) (by kernel_rfl) (by kernel_rfl) ?_); (refine ga_n 14 (by repeat first | exact NoP.sp | apply NoP.then | apply NoP.block) rfl rfl rfl rfl rfl rfl (by kernel_rfl) (by kernel_rfl) (by kernel_rfl) ?_); (refine ga_p 15 (by repeat first | exact NoP.sp | apply NoP.then | apply NoP.block) rfl (pv_spec rfl) rfl (by kernel_rfl) (by kernel_rfl) (by kernel_rfl) ?_); (refine ga_p 16 (by repeat first | exact NoP.sp | apply NoP.then | apply NoP.block) rfl (pv_spec rfl) rfl (by kernel_rfl) (by kernel_rfl) (by kernel_rfl) ?_); (refine ga_n 17 (by repeat first | exact NoP.sp | apply NoP.then | apply NoP.block) rfl rfl rfl rfl rfl rfl (by kernel_rfl) (by kernel_rfl) (by kernel_rfl) ?_); (refine ga_n 18 (by repeat first | exact NoP.sp | apply NoP.then | apply NoP.block) rfl rfl rfl rfl rfl rfl (by kernel_rfl) (by kernel_rfl) (by kernel_rfl) ?_); (refine ga_n 19 (by repeat first | exact NoP.sp | apply NoP.then | apply NoP.block) rfl rfl rfl rfl rfl rfl (by kernel_rfl) (by kernel_rfl) (by kernel_rfl) ?_); (refine ga_n 20 (by repeat first | exact NoP.sp | apply NoP.then | apply NoP.block) rfl rfl rfl rfl rfl rfl (by kernel_rfl) (by kernel_rfl) (by kernel_rfl) ?_); (refine ga_n 21 (by repeat first | exact NoP.sp | apply NoP.then | apply NoP.block) rfl rfl rfl rfl rfl rfl (by kernel_rfl) (by kernel_rfl) (by kernel_rfl) ?_); (refine ga_n 22 (by repeat first | exact NoP.sp | apply NoP.then | apply NoP.block) rfl rfl rfl rfl rfl rfl (by kernel_rfl) (by kernel_rfl) (by kernel_rfl) ?_); (refine ga_n 23 (by repeat first | exact NoP.sp | apply NoP.then | apply NoP.block) rfl rfl rfl rfl rfl rfl (by kernel_rfl) (by kernel_rfl) (by kernel_rfl) ?_); (refine ga_n 24 (by repeat first | exact NoP.sp | apply NoP.then | apply NoP.block) rfl rfl rfl rfl rfl rfl (by kernel_rfl) (by kernel_rfl) (by kernel_rfl) ?_); (refine ga_n 25 (by repeat first | exact NoP.sp | apply NoP.then | apply NoP.block) rfl rfl rfl rfl rfl rfl (by kernel_rfl) (by kernel_rfl) (by kernel_rfl) ?_); (refine ga_n 26 (by repeat first | exact NoP.sp | apply NoP.then | apply NoP.block) rfl rfl rfl rfl rfl rfl (by kernel_rfl) (by kernel_rfl) (by kernel_rfl) ?_); (refine ga_n 27 (by repeat first | exact NoP.sp | apply NoP.then | apply NoP.block) rfl rfl rfl rfl rfl rfl (by kernel_rfl) (by kernel_rfl) (by kernel_rfl) ?_); (refine ga_p 28 (by repeat first | exact NoP.sp | apply NoP.then | apply NoP.block) rfl (pv_spec rfl) rfl (by kernel_rfl) (by kernel_rfl) (by kernel_rfl) ?_)
    refine ga_nil (by kernel_rfl) ?_
    repeat' (first | refine g_pv rfl rfl ?_ | refine g_nil ?_ | refine gq_then ?_ | refine gc_seq ?_ | refine gc_region ?_ | refine gc_cond_t rfl ?_ | refine gc_ret ?_ | refine gq_then_ret ?_ | refine gq_block_ret ?_)
    refine gq_ret1 (.inr rfl) rfl rfl rfl (fun w' H => ⟨false, ?_, rfl, hp_nil H⟩)
    rw [hO, hR, relsB_no (by unfold relB; rw [g1', g2, g3', g4, g5', g6]; rfl)]
  have g6 : decide (r.add < 0) = false := g6
  (refine ga_py 4 (by repeat first | exact NoP.sp | apply NoP.then | apply NoP.block) rfl rfl rfl rfl (pv_spec rfl) rfl (by kernel_rfl) (by kernel_rfl) (by kernel_rfl) ?_); (refine ga_ld 5 0 (by repeat first | exact NoP.sp | apply NoP.then | apply NoP.block) rfl (wanted_yes rfl rfl rfl) rfl rfl rfl rfl rfl rfl (by kernel_rfl) (by kernel_rfl) (by kernel_rfl) ?_); (refine ga_py 6 (by repeat first | exact NoP.sp | apply NoP.then | apply NoP.block) rfl rfl rfl rfl (pv_spec rfl) rfl (by kernel_rfl) (by kernel_rfl) (by kernel_rfl) ?_); (refine ga_py 7 (by repeat first | exact NoP.sp | apply NoP.then | apply NoP.block) rfl rfl rfl rfl (pv_spec rfl) rfl (by kernel_rfl) (by kernel_rfl) (by kernel_rfl) ?_); (refine ga_ld 8 2 (by repeat first | exact NoP.sp | apply NoP.then | apply NoP.block) rfl (wanted_yes rfl rfl rfl) rfl rfl rfl rfl rfl rfl (by kernel_rfl) (by kernel_rfl) (by kernel_rfl) ?_); (refine ga_py 9 (by repeat first | exact NoP.sp | apply NoP.then | apply NoP.block) rfl rfl rfl rfl (pv_spec rfl) rfl (by kernel_rfl) (by kernel_rfl) (by kernel_rfl) ?_); (refine ga_ld 10 0 (by repeat first | exact NoP.sp | apply NoP.then | apply NoP.block) rfl (wanted_yes rfl rfl rfl) rfl rfl rfl rfl rfl rfl (by kernel_rfl) (by kernel_rfl) (by kernel_rfl) ?_)
  refine ga_py 11 (by repeat first | exact NoP.sp | apply NoP.then | apply NoP.block) rfl rfl rfl rfl (p_ix (bx := bb) (o := oo) (by show some (Value.slice j.p.oA _ _) = _; rw [hA]) rfl rfl rfl hb5.1 hb5.2) rfl (by kernel_rfl) (by kernel_rfl) (by kernel_rfl) ?_
  (refine ga_py 12 (by repeat first | exact NoP.sp | apply NoP.then | apply NoP.block) rfl rfl rfl rfl (pv_spec rfl) rfl (by kernel_rfl) (by kernel_rfl) (by kernel_rfl) ?_)
  refine ga_ldO 13 (cs := [.int .i64 q.size]) (by repeat first | exact NoP.sp | apply NoP.then | apply NoP.block) rfl (wanted_yes rfl rfl rfl) rfl rfl rfl rfl (fun k u hk => ?_) rfl (by kernel_rfl) (by kernel_rfl) (by kernel_rfl) ?_
  · have hk0 : k = 0 := by have := (List.getElem?_eq_some_iff.1 hk).1; simp at this; omega
    subst hk0
    simp only [List.getElem?_cons_zero, Option.some.injEq] at hk; subst hk
    exact (old_le0 _ w).cell (hcq 1 _ rfl)
  (refine ga_py 14 (by repeat first | exact NoP.sp | apply NoP.then | apply NoP.block) rfl rfl rfl rfl (pv_spec rfl) rfl (by kernel_rfl) (by kernel_rfl) (by kernel_rfl) ?_); (refine ga_p 15 (by repeat first | exact NoP.sp | apply NoP.then | apply NoP.block) rfl (pv_spec rfl) rfl (by kernel_rfl) (by kernel_rfl) (by kernel_rfl) ?_); (refine ga_p 16 (by repeat first | exact NoP.sp | apply NoP.then | apply NoP.block) rfl (pv_spec rfl) rfl (by kernel_rfl) (by kernel_rfl) (by kernel_rfl) ?_)
  refine ga_case (t := 94) rfl (fun g7 => ?_) (fun g7 => ?_)
  · have g7 : decide (r.add > q.size) = true := g7
    (refine ga_n 17 (by repeat first | exact NoP.sp | apply NoP.then | apply NoP.block) rfl rfl rfl rfl rfl rfl (by kernel_rfl) (by kernel_rfl) (by kernel_rfl) ?_); (refine ga_n 18 (by repeat first | exact NoP.sp | apply NoP.then | apply NoP.block) rfl rfl rfl rfl rfl rfl (by kernel_rfl) (by kernel_rfl) (by kernel_rfl) ?_); (refine ga_n 19 (by repeat first | exact NoP.sp | apply NoP.then | apply NoP.block) rfl rfl rfl rfl rfl rfl (by kernel_rfl) (by kernel_rfl) (by kernel_rfl) ?_); (refine ga_n 20 (by repeat first | exact NoP.sp | apply NoP.then | apply NoP.block) rfl rfl rfl rfl rfl rfl (by kernel_rfl) (by kernel_rfl) (by kernel_rfl) ?_); (refine ga_n 21 (by repeat first | exact NoP.sp | apply NoP.then | apply NoP.block) rfl rfl rfl rfl rfl rfl (by kernel_rfl) (by kernel_rfl) (by kernel_rfl) ?_); (refine ga_n 22 (by repeat first | exact NoP.sp | apply NoP.then | apply NoP.block) rfl rfl rfl rfl rfl rfl (by kernel_rfl) (by kernel_rfl) (by kernel_rfl) ?_); (refine ga_n 23 (by repeat first | exact NoP.sp | apply NoP.then | apply NoP.block) rfl rfl rfl rfl rfl rfl (by kernel_rfl) (by kernel_rfl) (by kernel_rfl) ?_); (refine ga_n 24 (by repeat first | exact NoP.sp | apply NoP.then | apply NoP.block) rfl rfl rfl rfl rfl rfl (by kernel_rfl) (by kernel_rfl) (by kernel_rfl) ?_); (refine ga_n 25 (by repeat first | exact NoP.sp | apply NoP.then | apply NoP.block) rfl rfl rfl rfl rfl rfl (by kernel_rfl) (by kernel_rfl) (by kernel_rfl) ?_); (refine ga_n 26 (by repeat first | exact NoP.sp | apply NoP.then | apply NoP.block) rfl rfl rfl rfl rfl rfl (by kernel_rfl) (by kernel_rfl) (by kernel_rfl) ?_); (refine ga_n 27 (by repeat first | exact NoP.sp | apply NoP.then | apply NoP.block) rfl rfl rfl rfl rfl rfl (by kernel_rfl) (by kernel_rfl) (by kernel_rfl) ?_); (refine ga_p 28 (by repeat first | exact NoP.sp | apply NoP.then | apply NoP.block) rfl (pv_spec rfl) rfl (by kernel_rfl) (by kernel_rfl) (by kernel_rfl) ?_)
    refine ga_nil (by kernel_rfl) ?_
    repeat' (first | refine g_pv rfl rfl ?_ | refine g_nil ?_ | refine gq_then ?_ | refine gc_seq ?_ | refine gc_region ?_ | refine gc_cond_t rfl ?_ | refine gc_ret ?_ | refine gq_then_ret ?_ | refine gq_block_ret ?_)
    refine gq_ret1 (.inr rfl) rfl rfl rfl (fun w' H => ⟨false, ?_, rfl, hp_nil H⟩)
    rw [hO, hR, relsB_no (by unfold relB; rw [g1', g2, g3', g4, g5', g6, hlx]; dsimp only; rw [g7]; rfl)]
  have g7 : decide (r.add > q.size) = false := g7
  (refine ga_py 17 (by repeat first | exact NoP.sp | apply NoP.then | apply NoP.block) rfl rfl rfl rfl (pv_spec rfl) rfl (by kernel_rfl) (by kernel_rfl) (by kernel_rfl) ?_); (refine ga_py 18 (by repeat first | exact NoP.sp | apply NoP.then | apply NoP.block) rfl rfl rfl rfl (pv_spec rfl) rfl (by kernel_rfl) (by kernel_rfl) (by kernel_rfl) ?_); (refine ga_ld 19 1 (by repeat first | exact NoP.sp | apply NoP.then | apply NoP.block) rfl (wanted_yes rfl rfl rfl) rfl rfl rfl rfl rfl rfl (by kernel_rfl) (by kernel_rfl) (by kernel_rfl) ?_); (refine ga_py 20 (by repeat first | exact NoP.sp | apply NoP.then | apply NoP.block) rfl rfl rfl rfl (pv_spec rfl) rfl (by kernel_rfl) (by kernel_rfl) (by kernel_rfl) ?_); (refine ga_ld 21 0 (by repeat first | exact NoP.sp | apply NoP.then | apply NoP.block) rfl (wanted_yes rfl rfl rfl) rfl rfl rfl rfl rfl rfl (by kernel_rfl) (by kernel_rfl) (by kernel_rfl) ?_); (refine ga_py 22 (by repeat first | exact NoP.sp | apply NoP.then | apply NoP.block) rfl rfl rfl rfl (pv_spec rfl) rfl (by kernel_rfl) (by kernel_rfl) (by kernel_rfl) ?_); (refine ga_ld 23 0 (by repeat first | exact NoP.sp | apply NoP.then | apply NoP.block) rfl (wanted_yes rfl rfl rfl) rfl rfl rfl rfl rfl rfl (by kernel_rfl) (by kernel_rfl) (by kernel_rfl) ?_); (refine ga_py 24 (by repeat first | exact NoP.sp | apply NoP.then | apply NoP.block) rfl rfl rfl rfl (pv_spec rfl) rfl (by kernel_rfl) (by kernel_rfl) (by kernel_rfl) ?_)
  refine ga_eq 99 (u' := .int .i64 (r.off.toNat : Nat)) rfl (by rw [Int.toNat_of_nonneg hoff0]) ?_
  refine ga_eq 102 (u' := .int .i64 ((r.off.toNat + 4 : Nat) : Int)) rfl (by congr 1; rw [IntKind.wrap_i64]; omega) ?_
  have hbl : r.off.toNat < o.bytes.length := by omega
  obtain ⟨bc, oc, hB, hsub⟩ := Rd.sub ho.bytes hbl 4
  have hl4 : ((o.bytes.drop r.off.toNat).take 4).length = 4 := by rw [List.length_take, List.length_drop]; omega
  have hcap : r.off.toNat + 4 ≤ o.bC := by have := ho.bcap; omega
  refine ga_py 25 (by repeat first | exact NoP.sp | apply NoP.then | apply NoP.block) rfl rfl rfl rfl (p_sl (ik := .i64) (ik' := .i64) (lo := r.off.toNat) (hi := r.off.toNat + 4) (A := o.bA) (n := o.bytes.length) (c := o.bC) rfl rfl rfl rfl rfl (Nat.le_add_right _ _) hcap) rfl (by kernel_rfl) (by kernel_rfl) (by kernel_rfl) ?_
  refine ga_eq 103 (u' := .slice (some ⟨bc, oc + r.off.toNat * 1, none⟩) ((o.bytes.drop r.off.toNat).take 4).length (o.bC - r.off.toNat)) rfl (by
    rw [if_neg (by have := ho.bcap; omega), hl4, hB, Option.map_some, addr_add]
    congr 1; omega) ?_
  refine ga_one (i := 26) (by kernel_rfl) (gs_of rfl (fun K hK => ?_))
  refine g_yes rfl rfl rfl ?_
  refine g_call rfl (Cl.of Tryz.func45 rfl rfl) rfl rfl (fun w' hE => max_sp ((o.bytes.drop r.off.toNat).take 4) _ _ w' (hsub.le (fun b o h => old_le hE b o (old_le0 _ w b o h))) (by omega) (by omega)) rfl ?_
  rintro m hm
  refine g_nil ?_
  refine hK _ _ ⟨[], List.Perm.of_eq rfl⟩ ?_
  (refine ga_py 27 (by repeat first | exact NoP.sp | apply NoP.then | apply NoP.block) rfl rfl rfl rfl (pv_spec rfl) rfl (by kernel_rfl) (by kernel_rfl) (by kernel_rfl) ?_); (refine ga_p 28 (by repeat first | exact NoP.sp | apply NoP.then | apply NoP.block) rfl (pv_spec rfl) rfl (by kernel_rfl) (by kernel_rfl) (by kernel_rfl) ?_)
  refine ga_nil (by kernel_rfl) ?_
  repeat' (refine gq_then ?_)
  refine gc_condC rfl (fun g8 => ?_) (fun g8 => ?_)
  · have g8' : (maxL ((o.bytes.drop r.off.toNat).take 4) == 0) = false := by rw [← hm]; simpa using g8
    repeat' (first | refine g_pv rfl rfl ?_ | refine g_nil ?_ | refine gq_then ?_ | refine gc_seq ?_ | refine gc_region ?_ | refine gc_ret ?_ | refine gq_then_ret ?_ | refine gq_block_ret ?_)
    refine gq_ret1 (.inr rfl) rfl rfl rfl (fun w' H => ⟨false, ?_, rfl, hp_nil H⟩)
    rw [hO, hR, relsB_no (by unfold relB; rw [g1', g2, g3', g4, g5', g6, hlx]; dsimp only; rw [g7, g8']; rfl)]
  have g8' : (maxL ((o.bytes.drop r.off.toNat).take 4) == 0) = true := by rw [← hm]; simpa using g8
  repeat' (first | refine g_pv rfl rfl ?_ | refine g_ld 0 rfl rfl rfl rfl rfl rfl ?_ | refine g_nil ?_ | refine gq_then ?_ | refine gc_region ?_ | refine gc_skip ?_ | refine gq_block ?_)
  refine gq_again (k + 1, r.off + 4) ⟨hlt, by dsimp only; omega, by dsimp only; omega, ?_⟩ (by dsimp only; omega) ⟨rfl, rfl, rfl, rfl, inc_eq (by omega), ?_, trivial⟩ (fun w' H => hp_drop 0 H)
  · dsimp only
    rw [hR, relsB_yes (by unfold relB; rw [g1', g2, g3', g4, g5', g6, hlx]; dsimp only; rw [g7, g8']; rfl)]
  · show some (Value.int .i64 (IntKind.i64.wrap (r.off + 4))) = some (Value.int .i64 (r.off + 4))
    rw [IntKind.wrap_i64]; congr 2; omega
end Go.Proofs.YtpohhfggmaihpaaGreatDoor

/- tac's judge: function. -/
namespace Go.Proofs.YtpohhfggmaihpaaGreatDoor
open Go.Wk
set_option linter.unusedVariables false
set_option linter.unusedSimpArgs false
attribute [local irreducible] G GC GQ GA GS Exit.then Exit.inBlock

def slotB (s : Slt) : Bool := !decide (s.size < 1) && (!decide (s.size > 16384) && powB s.align)
def lastB (f : Fn) : Bool := match f.code[f.code.length - 1]? with
  | some x => x.op == 9 || (x.op == 10 || x.op == 14)
  | none => false
def funcB (j : Jg) : Bool := tagB j.f.nm && (!decide (j.f.pa < 0) && (!decide (j.f.pa > 8) && (!decide (j.f.pa > j.f.te) && (!decide (j.f.te > 4096) && (!decide ((j.f.slots.length : Int) > 256) && (!decide ((j.f.code.length : Int) < 1) && (!decide ((j.f.code.length : Int) > 16384) && (j.f.slots.all slotB && (lastB j.f && j.f.code.all (rightB true j))))))))))
theorem function1_sp (j : Jg) (x : Ins) (bx : Nat) (w : World) (hx : InsIn (hw w) x) (hj : JgIn (hw w) j) (hb : ∀ (i : Nat) (u : Value), j.cells[i]? = some u → cellAt (hw w) bx (0 + i) = some u) :
    Sp Tryz.prog 47 [.agg x.cells.toArray, .pointer (some ⟨bx, 0, none⟩)] w [] (fun b : Bool => .bool b) (fun _ => []) (fun b => b = !rightB true j x) := by
  refine enter (s := Tryz.sx) [] Tryz.func47 rfl rfl rfl (Eff.refl w) ?_
  repeat' (first | refine g_pv rfl rfl ?_ | refine g_nil ?_ | refine gq_then ?_ | refine gc_seq ?_ | refine gc_region ?_ | refine g_box rfl rfl (fun _ => ?_))
  refine g_ldO rfl rfl (cs := j.cells) rfl rfl (fun i u hu => (old_le0 _ w).cell (hb i u hu)) rfl ?_
  repeat' (refine g_ld 0 rfl rfl rfl rfl rfl rfl ?_)
  refine g_call rfl (Cl.of Tryz.func48 rfl rfl) rfl rfl (fun w' hE => right_sp j x w' (hx.le (fun b o h => old_le hE b o (old_le0 _ w b o h))) (hj.le (fun b o h => old_le hE b o (old_le0 _ w b o h)))) rfl ?_
  rintro b ⟨nb, hb'⟩
  have hb' : b = rightB true j x := hb'
  repeat' (first | refine g_pv rfl rfl ?_ | refine g_nil ?_ | refine gq_then ?_ | refine gc_ret ?_)
  exact gq_ret1 (.inr rfl) rfl rfl rfl (fun w' H => ⟨!b, by rw [hb'], rfl, hp_nil H⟩)
set_option maxHeartbeats 16000000 in
theorem function_sp (j : Jg) (w : World) (hj : JgIn (hw w) j) : Sp Tryz.prog 25 [j.val] w [] (fun b : Bool => .bool b) (fun _ => []) (fun b => b = funcB j) := by
  have hslen := hj.f.slen
  have hclen := hj.f.code.len
  refine enter (s := Tryz.sx) [] Tryz.func25 rfl rfl rfl (Eff.refl w) ?_
  refine gc_seq ?_
  repeat' (first | refine g_pv rfl rfl ?_ | refine g_nil ?_ | refine gq_then ?_ | refine gc_region ?_ | refine g_box rfl rfl (fun _ => ?_))
  rename_i b1
  refine gc_seq ?_
  repeat' (first | refine g_pv rfl rfl ?_ | refine g_ld 0 rfl rfl rfl rfl rfl rfl ?_ | refine g_nil ?_ | refine gq_then ?_ | refine gc_region ?_ | refine g_alloc rfl rfl (fun _ => ?_) | refine g_st 0 rfl rfl rfl rfl rfl rfl rfl ?_)
  rename_i b3
  refine gc_heap (R' := [[(b3, .cells ⟨j.f.cells⟩ 32 (0, 0))], [(b1, .cells ⟨j.cells⟩ 59 (0, 0))]]) (fun w H => H) ?_
  repeat' (first | refine g_pv rfl rfl ?_ | refine g_ld 0 rfl rfl rfl rfl rfl rfl ?_ | refine g_nil ?_ | refine gq_then ?_ | refine gc_seq ?_ | refine gc_region ?_)
  refine g_call rfl (Cl.of Tryz.func43 rfl rfl) rfl rfl (fun w' hE => tag_sp j.f.nm w') rfl ?_
  rintro t1 ht1
  repeat' (refine g_pv rfl rfl ?_)
  cases t1
  · repeat' (first | refine g_pv rfl rfl ?_ | refine g_nil ?_ | refine gq_then ?_ | refine gc_seq ?_ | refine gc_region ?_ | refine gc_cond_t rfl ?_ | refine gc_ret ?_ | refine gq_then_ret ?_ | refine g_no rfl rfl rfl rfl rfl ?_)
    refine gq_ret1 (.inr rfl) rfl rfl rfl (fun w' H => ⟨false, ?_, rfl, hp_nil H⟩)
    unfold funcB; rw [← ht1]; rfl
  repeat' (first | refine g_pv rfl rfl ?_ | refine g_ld 0 rfl rfl rfl rfl rfl rfl ?_ | refine g_yes rfl rfl rfl ?_)
  refine g_case (t := 21) rfl (fun h0 => ?_) (fun h0 => ?_)
  · have h0 : decide (j.f.pa < 0) = true := h0
    repeat' (first | refine g_pv rfl rfl ?_ | refine g_nil ?_ | refine gq_then ?_ | refine gc_seq ?_ | refine gc_region ?_ | refine gc_cond_t rfl ?_ | refine gc_ret ?_ | refine gq_then_ret ?_ | refine g_no rfl rfl rfl rfl rfl ?_)
    refine gq_ret1 (.inr rfl) rfl rfl rfl (fun w' H => ⟨false, ?_, rfl, hp_nil H⟩)
    unfold funcB; rw [← ht1, h0]; rfl
  have h0 : decide (j.f.pa < 0) = false := h0
  repeat' (first | refine g_pv rfl rfl ?_ | refine g_ld 0 rfl rfl rfl rfl rfl rfl ?_ | refine g_yes rfl rfl rfl ?_)
  refine g_case (t := 26) rfl (fun h1 => ?_) (fun h1 => ?_)
  · have h1 : decide (j.f.pa > 8) = true := h1
    repeat' (first | refine g_pv rfl rfl ?_ | refine g_nil ?_ | refine gq_then ?_ | refine gc_seq ?_ | refine gc_region ?_ | refine gc_cond_t rfl ?_ | refine gc_ret ?_ | refine gq_then_ret ?_ | refine g_no rfl rfl rfl rfl rfl ?_)
    refine gq_ret1 (.inr rfl) rfl rfl rfl (fun w' H => ⟨false, ?_, rfl, hp_nil H⟩)
    unfold funcB; rw [← ht1, h0, h1]; rfl
  have h1 : decide (j.f.pa > 8) = false := h1
  repeat' (first | refine g_pv rfl rfl ?_ | refine g_ld 0 rfl rfl rfl rfl rfl rfl ?_ | refine g_yes rfl rfl rfl ?_)
  refine g_case (t := 33) rfl (fun h2 => ?_) (fun h2 => ?_)
  · have h2 : decide (j.f.pa > j.f.te) = true := h2
    repeat' (first | refine g_pv rfl rfl ?_ | refine g_nil ?_ | refine gq_then ?_ | refine gc_seq ?_ | refine gc_region ?_ | refine gc_cond_t rfl ?_ | refine gc_ret ?_ | refine gq_then_ret ?_ | refine g_no rfl rfl rfl rfl rfl ?_)
    refine gq_ret1 (.inr rfl) rfl rfl rfl (fun w' H => ⟨false, ?_, rfl, hp_nil H⟩)
    unfold funcB; rw [← ht1, h0, h1, h2]; rfl
  have h2 : decide (j.f.pa > j.f.te) = false := h2
  repeat' (first | refine g_pv rfl rfl ?_ | refine g_ld 0 rfl rfl rfl rfl rfl rfl ?_ | refine g_yes rfl rfl rfl ?_)
  refine g_case (t := 38) rfl (fun h3 => ?_) (fun h3 => ?_)
  · have h3 : decide (j.f.te > 4096) = true := h3
    repeat' (first | refine g_pv rfl rfl ?_ | refine g_nil ?_ | refine gq_then ?_ | refine gc_seq ?_ | refine gc_region ?_ | refine gc_cond_t rfl ?_ | refine gc_ret ?_ | refine gq_then_ret ?_ | refine g_no rfl rfl rfl rfl rfl ?_)
    refine gq_ret1 (.inr rfl) rfl rfl rfl (fun w' H => ⟨false, ?_, rfl, hp_nil H⟩)
    unfold funcB; rw [← ht1, h0, h1, h2, h3]; rfl
  have h3 : decide (j.f.te > 4096) = false := h3
  repeat' (first | refine g_pv rfl rfl ?_ | refine g_ld 0 rfl rfl rfl rfl rfl rfl ?_ | refine g_yes rfl rfl rfl ?_)
  refine g_case (t := 44) rfl (fun h4 => ?_) (fun h4 => ?_)
  · have h4 : decide ((j.f.slots.length : Int) > 256) = true := h4
    repeat' (first | refine g_pv rfl rfl ?_ | refine g_nil ?_ | refine gq_then ?_ | refine gc_seq ?_ | refine gc_region ?_ | refine gc_cond_t rfl ?_ | refine gc_ret ?_ | refine gq_then_ret ?_ | refine g_no rfl rfl rfl rfl rfl ?_)
    refine gq_ret1 (.inr rfl) rfl rfl rfl (fun w' H => ⟨false, ?_, rfl, hp_nil H⟩)
    unfold funcB; rw [← ht1, h0, h1, h2, h3, h4]; rfl
  have h4 : decide ((j.f.slots.length : Int) > 256) = false := h4
  repeat' (first | refine g_pv rfl rfl ?_ | refine g_yes rfl rfl rfl ?_)
  refine g_case (t := 48) rfl (fun h5 => ?_) (fun h5 => ?_)
  · have h5 : decide ((j.f.code.length : Int) < 1) = true := h5
    repeat' (first | refine g_pv rfl rfl ?_ | refine g_nil ?_ | refine gq_then ?_ | refine gc_seq ?_ | refine gc_region ?_ | refine gc_cond_t rfl ?_ | refine gc_ret ?_ | refine gq_then_ret ?_ | refine g_no rfl rfl rfl rfl rfl ?_)
    refine gq_ret1 (.inr rfl) rfl rfl rfl (fun w' H => ⟨false, ?_, rfl, hp_nil H⟩)
    unfold funcB; rw [← ht1, h0, h1, h2, h3, h4, h5]; rfl
  have h5 : decide ((j.f.code.length : Int) < 1) = false := h5
  repeat' (first | refine g_pv rfl rfl ?_ | refine g_nil ?_ | refine gq_then ?_ | refine g_yes rfl rfl rfl ?_)
  refine gc_condC rfl (fun h6 => ?_) (fun h6 => ?_)
  · have h6 : decide ((j.f.code.length : Int) > 16384) = true := h6
    repeat' (first | refine g_pv rfl rfl ?_ | refine g_nil ?_ | refine gq_then ?_ | refine gc_seq ?_ | refine gc_region ?_ | refine gc_ret ?_ | refine gq_then_ret ?_)
    refine gq_ret1 (.inr rfl) rfl rfl rfl (fun w' H => ⟨false, ?_, rfl, hp_nil H⟩)
    unfold funcB; rw [← ht1, h0, h1, h2, h3, h4, h5, h6]; rfl
  have h6 : decide ((j.f.code.length : Int) > 16384) = false := h6
  have hF : funcB j = (j.f.slots.all slotB && (lastB j.f && j.f.code.all (rightB true j))) := by unfold funcB; rw [← ht1, h0, h1, h2, h3, h4, h5, h6]; rfl
  have hn1 := of_decide_eq_false h5
  have hn2 := of_decide_eq_false h6
  repeat' (first | refine g_pv rfl rfl ?_ | refine g_ld 0 rfl rfl rfl rfl rfl rfl ?_ | refine g_nil ?_ | refine gq_then ?_ | refine gc_seq ?_ | refine gc_region ?_ | refine gc_block ?_ | refine gc_skip ?_)
  refine gc_loop (Y := Nat) (fun y => y ≤ j.f.slots.length ∧ (j.f.slots.take y).all slotB = true)
    (fun y => [(1, .pointer (some ⟨b1, 0, none⟩)), (3, .pointer (some ⟨b3, 0, none⟩)), (4, .int .i64 j.f.code.length), (53, .slice j.f.sA j.f.slots.length j.f.sC), (54, .int .i64 j.f.slots.length), (55, .int .i64 y)])
    (fun y => [[(b3, .cells ⟨j.f.cells⟩ 32 (0, 0))], [(b1, .cells ⟨j.cells⟩ 59 (0, 0))]])
    (fun y => j.f.slots.length - y) 0 ⟨Nat.zero_le _, rfl⟩ ⟨rfl, rfl, rfl, rfl, rfl, rfl, trivial⟩ (fun w' H => H) ?_
  rintro k ⟨hk, hall⟩
  dsimp only at hk hall ⊢
  repeat' (first | refine g_pv rfl rfl ?_ | refine g_nil ?_ | refine gq_then ?_ | refine gc_seq ?_ | refine gc_region ?_)
  refine gc_condC rfl (fun hc => ?_) (fun hc => ?_)
  · have hlt : k < j.f.slots.length := by have := of_decide_eq_true hc; omega
    have hx : j.f.slots[k]? = some (j.f.slots[k]) := List.getElem?_eq_getElem hlt
    have htk : j.f.slots.take (k + 1) = j.f.slots.take k ++ [j.f.slots[k]] := List.take_succ_eq_append_getElem hlt
    have hmx : j.f.slots[k] ∈ j.f.slots := List.getElem_mem hlt
    generalize j.f.slots[k] = s at hx htk hmx
    have stop : slotB s = false → funcB j = false := fun h => by
      rw [hF]
      have : j.f.slots.all slotB = false := by
        cases hq : j.f.slots.all slotB with
        | false => rfl
        | true => rw [List.all_eq_true.1 hq s hmx] at h; cases h
      rw [this]; rfl
    repeat' (first | refine gq_then ?_ | refine gc_seq ?_ | refine gc_region ?_ | refine gc_block ?_ | refine gc_skip ?_)
    refine g_at (l := j.f.slots) (f := Slt.cells) (u := s) rfl rfl rfl rfl rfl (Int.natCast_nonneg k) (by omega) (hj.f.slots.le (old_le0 _ w)) hx rfl rfl rfl rfl (fun a => ?_)
    repeat' (first | refine g_nil ?_ | refine gq_then ?_ | refine g_alloc rfl rfl (fun _ => ?_) | refine g_st 0 rfl rfl rfl rfl rfl rfl rfl ?_)
    rename_i b6
    refine gc_heap (R' := [[(b6, .cells ⟨s.cells⟩ 90 (0, 0))], [(b3, .cells ⟨j.f.cells⟩ 32 (0, 0))], [(b1, .cells ⟨j.cells⟩ 59 (0, 0))]]) (fun w H => H) ?_
    repeat' (first | refine g_pv rfl rfl ?_ | refine g_ld 0 rfl rfl rfl rfl rfl rfl ?_ | refine gc_seq ?_ | refine gc_region ?_)
    refine g_case (t := 62) rfl (fun g1 => ?_) (fun g1 => ?_)
    · have g1 : decide (s.size < 1) = true := g1
      repeat' (first | refine g_pv rfl rfl ?_ | refine g_nil ?_ | refine gq_then ?_ | refine gc_seq ?_ | refine gc_region ?_ | refine gc_cond_t rfl ?_ | refine gc_ret ?_ | refine gq_then_ret ?_ | refine gq_block_ret ?_ | refine g_no rfl rfl rfl rfl rfl ?_)
      refine gq_ret1 (.inr rfl) rfl rfl rfl (fun w' H => ⟨false, ?_, rfl, hp_nil H⟩)
      rw [stop (by unfold slotB; rw [g1]; rfl)]
    have g1 : decide (s.size < 1) = false := g1
    repeat' (first | refine g_pv rfl rfl ?_ | refine g_ld 0 rfl rfl rfl rfl rfl rfl ?_ | refine g_yes rfl rfl rfl ?_)
    refine g_case (t := 67) rfl (fun g2 => ?_) (fun g2 => ?_)
    · have g2 : decide (s.size > 16384) = true := g2
      repeat' (first | refine g_pv rfl rfl ?_ | refine g_nil ?_ | refine gq_then ?_ | refine gc_seq ?_ | refine gc_region ?_ | refine gc_cond_t rfl ?_ | refine gc_ret ?_ | refine gq_then_ret ?_ | refine gq_block_ret ?_ | refine g_no rfl rfl rfl rfl rfl ?_)
      refine gq_ret1 (.inr rfl) rfl rfl rfl (fun w' H => ⟨false, ?_, rfl, hp_nil H⟩)
      rw [stop (by unfold slotB; rw [g1, g2]; rfl)]
    have g2 : decide (s.size > 16384) = false := g2
    repeat' (first | refine g_pv rfl rfl ?_ | refine g_ld 0 rfl rfl rfl rfl rfl rfl ?_ | refine g_yes rfl rfl rfl ?_)
    refine g_call rfl (Cl.of Tryz.func44 rfl rfl) rfl rfl (fun w' hE => power_sp s.align w') rfl ?_
    rintro t3 ht3
    have ht3 : t3 = powB s.align := ht3
    repeat' (first | refine g_pv rfl rfl ?_ | refine g_nil ?_ | refine gq_then ?_ | refine g_yes rfl rfl rfl ?_)
    cases t3
    · repeat' (first | refine g_pv rfl rfl ?_ | refine g_nil ?_ | refine gq_then ?_ | refine gc_seq ?_ | refine gc_region ?_ | refine gc_cond_t rfl ?_ | refine gc_ret ?_ | refine gq_then_ret ?_ | refine gq_block_ret ?_)
      refine gq_ret1 (.inr rfl) rfl rfl rfl (fun w' H => ⟨false, ?_, rfl, hp_nil H⟩)
      rw [stop (by unfold slotB; rw [g1, g2, ← ht3]; rfl)]
    repeat' (first | refine g_pv rfl rfl ?_ | refine g_nil ?_ | refine gq_then ?_ | refine gc_region ?_ | refine gc_cond_f rfl ?_ | refine gc_skip ?_ | refine gq_block ?_)
    refine gq_again (k + 1) ⟨hlt, ?_⟩ (by omega) ⟨rfl, rfl, rfl, rfl, rfl, inc_eq (by omega), trivial⟩ (fun w' H => hp_drop 0 H)
    have hs : slotB s = true := by unfold slotB; rw [g1, g2, ← ht3]; rfl
    rw [htk, List.all_append, hall]; simp [hs]
  · have hge : k = j.f.slots.length := by have := of_decide_eq_false hc; omega
    rw [hge, List.take_length] at hall
    have hF2 : funcB j = (lastB j.f && j.f.code.all (rightB true j)) := by rw [hF, hall]; rfl
    have hpos : j.f.code.length - 1 < j.f.code.length := by omega
    have hx : j.f.code[j.f.code.length - 1]? = some (j.f.code[j.f.code.length - 1]) := List.getElem?_eq_getElem hpos
    generalize j.f.code[j.f.code.length - 1] = x at hx
    have hlast : lastB j.f = (x.op == 9 || (x.op == 10 || x.op == 14)) := by unfold lastB; rw [hx]
    repeat' (first | refine g_pv rfl rfl ?_ | refine g_ld 0 rfl rfl rfl rfl rfl rfl ?_ | refine gq_then ?_ | refine gc_seq ?_ | refine gc_region ?_ | refine gc_exit ?_ | refine gq_then_exit ?_ | refine gq_block_exit ?_)
    refine g_eq 77 (u' := .int .i64 ((j.f.code.length - 1 : Nat) : Int)) rfl (by congr 1; rw [IntKind.wrap_i64]; omega) ?_
    refine g_atF (l := j.f.code) (f := Ins.cells) (q := x) (cs := [.int .i64 x.op]) (off := 0) rfl rfl rfl rfl rfl rfl rfl rfl (Int.natCast_nonneg _) (by omega) (hj.f.code.row.le (old_le0 _ w)) hx rfl rfl rfl rfl rfl (fun a a2 => ?_)
    repeat' (first | refine g_nil ?_ | refine gq_then ?_ | refine gc_block ?_)
    refine gc_cut (Y := Bool) (fun b => b = lastB j.f) (fun b => [(1, .pointer (some ⟨b1, 0, none⟩)), (3, .pointer (some ⟨b3, 0, none⟩)), (81, .bool b)])
      (fun b => [[(b3, .cells ⟨j.f.cells⟩ 32 (0, 0))], [(b1, .cells ⟨j.cells⟩ 59 (0, 0))]]) ?_ ?_
    · repeat' (first | refine g_pv rfl rfl ?_ | refine g_nil ?_ | refine gq_then ?_ | refine gc_seq ?_ | refine gc_region ?_)
      refine gc_condC rfl (fun c9 => ?_) (fun c9 => ?_)
      · have c9 : (x.op == 9) = true := c9
        repeat' (refine gc_skip ?_)
        exact gq_at true (by rw [hlast, c9]; rfl) ⟨rfl, rfl, rfl, trivial⟩ (fun w' H => H)
      have c9 : (x.op == 9) = false := c9
      repeat' (first | refine g_pv rfl rfl ?_ | refine g_nil ?_ | refine gq_then ?_ | refine gc_seq ?_ | refine gc_region ?_)
      refine gc_condC rfl (fun c10 => ?_) (fun c10 => ?_)
      · have c10 : (x.op == 10) = true := c10
        repeat' (refine gc_skip ?_)
        exact gq_at true (by rw [hlast, c9, c10]; rfl) ⟨rfl, rfl, rfl, trivial⟩ (fun w' H => H)
      have c10 : (x.op == 10) = false := c10
      repeat' (first | refine g_pv rfl rfl ?_ | refine g_nil ?_ | refine gc_region ?_)
      exact gq_at (x.op == 14) (by rw [hlast, c9, c10]; rfl) ⟨rfl, rfl, rfl, trivial⟩ (fun w' H => H)
    · rintro b hb
      dsimp only
      cases b
      · repeat' (first | refine g_pv rfl rfl ?_ | refine g_nil ?_ | refine gq_then ?_ | refine gc_seq ?_ | refine gc_region ?_ | refine gc_cond_f rfl ?_ | refine gc_skip ?_ | refine gc_ret ?_ | refine gq_block ?_)
        refine gq_ret1 (.inr rfl) rfl rfl rfl (fun w' H => ⟨false, ?_, rfl, hp_nil H⟩)
        rw [hF2, ← hb]; rfl
      · repeat' (first | refine g_pv rfl rfl ?_ | refine g_ld 0 rfl rfl rfl rfl rfl rfl ?_ | refine gc_seq ?_ | refine gc_region ?_ | refine gc_cond_t rfl ?_)
        refine g_call (Y := Bool) (vf := fun b => .bool b) (A' := fun _ => []) (post := fun b => (b = false ∧ ∀ a ∈ j.f.code, false = !rightB true j a) ∨ (b = true ∧ ∃ a ∈ j.f.code, true = !rightB true j a)) rfl (Cl.of Tryz.func46 rfl rfl) rfl rfl (fun w' hE => ?_) rfl ?_
        · have hle : Hle (hw w) (hw w') := fun b o h => old_le hE b o (old_le0 _ w b o h)
          exact containsIns_sp j.f.code (fun b a => b = !rightB true j a) j.f.cA j.f.cC w' 47 #[.pointer (some ⟨b1, 0, none⟩)] (by omega) (hj.f.code.row.le hle) ⟨Cl.of Tryz.func47 rfl rfl, fun w2 a ha hh => function1_sp j a b1 w2 ((hj.f.code.all a ha).le (fun b o h => hh b o (hle b o h))) (hj.le (fun b o h => hh b o (hle b o h))) (cells_of (hh _ _ (hp_in hE 1 rfl _ _ List.mem_cons_self)))⟩
        rintro b hb2
        repeat' (first | refine g_pv rfl rfl ?_ | refine g_nil ?_ | refine gq_then ?_ | refine gc_ret ?_ | refine gq_then_ret ?_ | refine gq_block_ret ?_)
        refine gq_ret1 (.inr rfl) rfl rfl rfl (fun w' H => ⟨!b, ?_, rfl, hp_nil H⟩)
        rw [hF2, ← hb]
        rcases hb2 with ⟨rfl, h8⟩ | ⟨rfl, a, ha, h8⟩
        · have : j.f.code.all (rightB true j) = true := List.all_eq_true.2 (fun a ha => by have := h8 a ha; simpa using this)
          rw [this]; rfl
        · have : j.f.code.all (rightB true j) = false := by
            cases hq : j.f.code.all (rightB true j) with
            | false => rfl
            | true => rw [List.all_eq_true.1 hq a ha] at h8; cases h8
          rw [this]; rfl
end Go.Proofs.YtpohhfggmaihpaaGreatDoor
