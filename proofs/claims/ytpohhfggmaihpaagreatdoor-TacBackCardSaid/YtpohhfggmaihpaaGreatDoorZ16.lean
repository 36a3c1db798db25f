/-
  A round of tac's read: what each line does to memory.
  A program that may be: what each of its lines finds.
  A program that may be: all its lines are read.
  What Check lets through may be read again.
  Rounds that read an object, a function.
-/
import Derived.Test.YtpohhfggmaihpaaGreatDoorZ15
import Derived.Test.YtpohhfggmaihpaaGreatDoorZ13

/- A round of tac's read: what each line does to memory. -/
namespace Go.Proofs.YtpohhfggmaihpaaGreatDoor
open Go.Wk
set_option linter.unusedVariables false
set_option linter.unusedSimpArgs false
attribute [local irreducible] G GC GQ GA GS Exit.then Exit.inBlock

def Hd (H : Nat → Option Obj) (E : HL) : Prop := ∀ b o, (b, o) ∈ E → H b = some o
theorem Hd.l {H : Nat → Option Obj} {A B : HL} (h : Hd H (A ++ B)) : Hd H A := fun b o hb => h b o (List.mem_append_left _ hb)
theorem Hd.r {H : Nat → Option Obj} {A B : HL} (h : Hd H (A ++ B)) : Hd H B := fun b o hb => h b o (List.mem_append_right _ hb)
def ObR (H : Nat → Option Obj) (o : Ob) : Prop := Rd H fB 1 o.bA o.bytes ∧ Rd H Rel.cells 3 o.rA o.rels ∧ o.bytes.length ≤ o.bC
def FnR (H : Nat → Option Obj) (f : Fn) : Prop := Rd H Slt.cells 2 f.sA f.slots ∧ Rd H Ins.cells 12 f.cA f.code ∧ ∀ x ∈ f.code, Rd H Arg.cells 2 x.aA x.args
/-- A program that is being read: its rows. -/
structure Bd (pr : Pr) (Ao Af Bb Br Bs Bc E : HL) : Prop where
  o : OwnL 66 5 Ob.cells (.slice pr.oA pr.obs.length pr.oC) pr.obs Ao
  f : OwnL 32 6 Fn.cells (.slice pr.fA pr.fns.length pr.fC) pr.fns Af
  oE : ∀ pre o, pr.obs = pre ++ [o] → ∀ q ∈ pre, ∀ H, Hd H E → ObR H q
  oL : ∀ pre o, pr.obs = pre ++ [o] → OwnL 5 1 fB (.slice o.bA o.bytes.length o.bC) o.bytes Bb ∧ OwnL 78 3 Rel.cells (.slice o.rA o.rels.length o.rC) o.rels Br
  fE : ∀ pre f, pr.fns = pre ++ [f] → ∀ q ∈ pre, ∀ H, Hd H E → FnR H q
  fL : ∀ pre f, pr.fns = pre ++ [f] → OwnL 90 2 Slt.cells (.slice f.sA f.slots.length f.sC) f.slots Bs ∧ OwnL 43 12 Ins.cells (.slice f.cA f.code.length f.cC) f.code Bc ∧ ∀ H, Hd H E → ∀ x ∈ f.code, Rd H Arg.cells 2 x.aA x.args
theorem ownL_rdH {α : Type} {e : TypeId} {sz n cap : Nat} {f : α → List Value} {ad : Option Addr} {l : List α} {A : HL} (h : OwnL e sz f (.slice ad n cap) l A) (hf : ∀ x, (f x).length = sz) {H : Nat → Option Obj} (hA : Hd H A) : Rd H f sz ad l := by
  obtain ⟨ad', cap', he, hr⟩ := OwnL.rd hf h hA
  cases he; exact hr
theorem ownL_capH {α : Type} {e : TypeId} {sz n cap : Nat} {f : α → List Value} {ad : Option Addr} {l : List α} {A : HL} (h : OwnL e sz f (.slice ad n cap) l A) : l.length ≤ cap := by
  rcases h.2 with ⟨he, h2, -⟩ | ⟨g, cap', rest, he, -, h3, -⟩
  · omega
  · cases he; exact h3
theorem Bd.oAll {pr : Pr} {Ao Af Bb Br Bs Bc E : HL} (B : Bd pr Ao Af Bb Br Bs Bc E) : ∀ o ∈ pr.obs, ∀ H, Hd H (Bb ++ (Br ++ E)) → ObR H o := fun o ho H hH => by
  rcases List.eq_nil_or_concat pr.obs with h | ⟨pre, q, h⟩
  · rw [h] at ho; cases ho
  · rw [List.concat_eq_append] at h
    rw [h] at ho
    rcases List.mem_append.1 ho with ho | ho
    · exact B.oE pre q h o ho H hH.r.r
    · rw [List.mem_singleton] at ho; subst ho
      obtain ⟨h1, h2⟩ := B.oL pre o h
      exact ⟨ownL_rdH h1 (fun _ => rfl) hH.l, ownL_rdH h2 (fun _ => rfl) hH.r.l, ownL_capH h1⟩
theorem Bd.fAll {pr : Pr} {Ao Af Bb Br Bs Bc E : HL} (B : Bd pr Ao Af Bb Br Bs Bc E) : ∀ f ∈ pr.fns, ∀ H, Hd H (Bs ++ (Bc ++ E)) → FnR H f := fun f hf H hH => by
  rcases List.eq_nil_or_concat pr.fns with h | ⟨pre, q, h⟩
  · rw [h] at hf; cases hf
  · rw [List.concat_eq_append] at h
    rw [h] at hf
    rcases List.mem_append.1 hf with hf | hf
    · exact B.fE pre q h f hf H hH.r.r
    · rw [List.mem_singleton] at hf; subst hf
      obtain ⟨h1, h2, h3⟩ := B.fL pre f h
      exact ⟨ownL_rdH h1 (fun _ => rfl) hH.l, ownL_rdH h2 (fun _ => rfl) hH.r.l, h3 H hH.r.r⟩
/-- One variable of the library is an int. -/
def M0 (H : Nat → Option Obj) : Prop := ∃ m, cellAt H 0 0 = some (.int .i64 m)
theorem M0.le {H1 H2 : Nat → Option Obj} (h : Hle H1 H2) (p : M0 H1) : M0 H2 := by obtain ⟨m, hm⟩ := p; exact ⟨m, h.cell hm⟩
theorem trimS_sp (W : List Bs) (w : World) (hl : (Lib.join W [32]).length ≤ 1099511627776) : Sp Tryz.prog 68 [.string (mkB (lnB W)), .string ⟨#[10]⟩] w [] (fun _ : Unit => .string (mkB (Lib.join W [32]))) (fun _ => []) (fun _ => True) := by
  refine Calls.mono (Any.strings_TrimSuffix Tryz.lays102 (mkB (lnB W)) ⟨#[10]⟩ w (by rw [size_bytesL]; show (lnB W).length ≤ _; rw [lnB_len]; omega)) ?_
  rintro e w' ⟨he, rfl⟩
  refine ⟨(), trivial, ?_, Eff.refl _⟩
  rw [he]
  show Ending.returned (.string ⟨(Lib.trimSuffix (lnB W) [10]).toArray⟩) = _
  unfold lnB
  rw [trim_nl]; rfl
theorem splitS_sp (x : Bs) (r : List Bs) (w : World) (hW : okW (x :: r)) (hm : M0 (hw w)) (hl : (Lib.join (x :: r) [32]).length ≤ 1000000000) : Sp Tryz.prog 67 [.string (mkB (Lib.join (x :: r) [32])), .string ⟨#[32]⟩] w [] (fun g : Nat => .slice (some ⟨g, 0, none⟩) (r.length + 1) (r.length + 1)) (fun g => [[(g, .cells ⟨(x :: r).flatMap strW⟩ 9 (0, 0))]]) (fun _ => True) := by
  obtain ⟨m, hm⟩ := hm
  obtain ⟨h1, h2⟩ := split_words r x hW
  refine Calls.mono (Any.strings_Split Tryz.lays146 (by kernel_rfl) (mkB (Lib.join (x :: r) [32])) ⟨#[32]⟩ m w (by rw [size_bytesL]; show (Lib.join (x :: r) [32]).length < _; omega) (by rw [← cellAt_hw]; exact hm) (by decide)) ?_
  rintro e w' ⟨he, rfl⟩
  have h1' : Lib.countB (mkB (Lib.join (x :: r) [32])) ⟨#[32]⟩ = r.length := h1
  have h2' : Lib.splitB ⟨#[32]⟩ 0 r.length (mkB (Lib.join (x :: r) [32])) = (x :: r).map mkB := h2
  refine ⟨w.heap.size, trivial, by rw [he, h1'], ?_⟩
  rw [h1', h2']
  have e3 : ((x :: r).map mkB).map Value.string = (x :: r).flatMap strW := by
    rw [List.map_map]
    induction (x :: r) with
    | nil => rfl
    | cons a t ih => rw [List.map_cons, List.flatMap_cons, ih]; rfl
  rw [e3]
  exact Eff.alloc w (.cells ((x :: r).flatMap strW).toArray 9)
theorem RD.mk0 (b g : Nat) (W : List Bs) (n : Nat) (h : W.length = n) : RD b W [[(b, .cells ⟨[.slice (some ⟨g, 0, none⟩) n n]⟩ 127 (0, 0))], [(g, .cells ⟨W.flatMap strW⟩ 9 (0, 0))]] := by
  subst h
  refine ⟨_, _, g, W.flatMap strW, rfl, Nat.le_refl _, fun i x hx => ⟨0, rfl, ?_⟩⟩
  have h1 := flat_get (f := strW) (sz := 1) (fun _ => rfl) W i x hx 0 _ rfl
  simpa using h1
theorem hp_fst {X : Cx} {w : World} {R S : RL} (H : Hp X w (R ++ S)) : Hp X w R := hp_sel S.flatten H (by rw [List.flatten_append])
theorem one_rd {α : Type} {f : α → List Value} {sz : Nat} {h : Nat → Option Obj} {g : Nat} {e : TypeId} {fz : Nat × Nat} {a : α} {l : List Value} (hg : h g = some (.cells ⟨l⟩ e fz)) (hl : l = f a) : Rd h f sz (some ⟨g, 0, none⟩) [a] := fun i x hx => by
  subst hl
  have hi : i = 0 := by have := (List.getElem?_eq_some_iff.1 hx).1; simpa using this
  subst hi
  simp only [List.getElem?_cons_zero, Option.some.injEq] at hx
  subst hx
  refine ⟨g, 0, rfl, fun j u hu => ?_⟩
  unfold cellAt
  rw [hg]
  simpa using hu
theorem own_len {α : Type} {e : TypeId} {sz n n' c : Nat} {f : α → List Value} {ad : Option Addr} {L : List α} {A : HL} (h : n' = n) (ho : OwnL e sz f (.slice ad n c) L A) : OwnL e sz f (.slice ad n' c) L A := h ▸ ho
theorem snoc_inj {α : Type} {p q : List α} {x y : α} (h : p ++ [x] = q ++ [y]) : p = q ∧ x = y := by
  have h1 := List.append_inj' h rfl
  exact ⟨h1.1, (List.cons.inj h1.2).1⟩
theorem hp_flat {X : Cx} {w : World} {R R' : RL} (h : R'.flatten = R.flatten) (H : Hp X w R) : Hp X w R' := hp_perm H (List.Perm.of_eq h)
theorem Bd.addO {pr : Pr} {Ao Af Bb Br Bs Bc E Ao' Bb' : HL} {o : Ob} {ad : Option Addr} {c : Nat} (B : Bd pr Ao Af Bb Br Bs Bc E) (ho : OwnL 66 5 Ob.cells (.slice ad (pr.obs ++ [o]).length c) (pr.obs ++ [o]) Ao')
    (hb : OwnL 5 1 fB (.slice o.bA o.bytes.length o.bC) o.bytes Bb') (hr : o.rels = [] ∧ o.rA = none ∧ o.rC = 0) : Bd { pr with obs := pr.obs ++ [o], oA := ad, oC := c } Ao' Af Bb' [] Bs Bc (Bb ++ (Br ++ E)) where
  o := ho
  f := B.f
  oE := fun pre q hq x hx H hH => by obtain ⟨rfl, rfl⟩ := snoc_inj hq; exact B.oAll x hx H hH
  oL := fun pre q hq => by
    obtain ⟨rfl, rfl⟩ := snoc_inj hq
    refine ⟨hb, ?_⟩
    rw [hr.1, hr.2.1, hr.2.2]; exact OwnL.nil _ _ _
  fE := fun pre f hf q hq H hH => B.fE pre f hf q hq H hH.r.r
  fL := fun pre f hf => ⟨(B.fL pre f hf).1, (B.fL pre f hf).2.1, fun H hH => (B.fL pre f hf).2.2 H hH.r.r⟩
theorem Bd.addF {pr : Pr} {Ao Af Bb Br Bs Bc E Af' : HL} {f : Fn} {ad : Option Addr} {c : Nat} (B : Bd pr Ao Af Bb Br Bs Bc E) (hf : OwnL 32 6 Fn.cells (.slice ad (pr.fns ++ [f]).length c) (pr.fns ++ [f]) Af')
    (hr : f.slots = [] ∧ f.sA = none ∧ f.sC = 0 ∧ f.code = [] ∧ f.cA = none ∧ f.cC = 0) : Bd { pr with fns := pr.fns ++ [f], fA := ad, fC := c } Ao Af' Bb Br [] [] (Bs ++ (Bc ++ E)) where
  o := B.o
  f := hf
  oE := fun pre o ho q hq H hH => B.oE pre o ho q hq H hH.r.r
  oL := B.oL
  fE := fun pre q hq x hx H hH => by obtain ⟨rfl, rfl⟩ := snoc_inj hq; exact B.fAll x hx H hH
  fL := fun pre q hq => by
    obtain ⟨rfl, rfl⟩ := snoc_inj hq
    obtain ⟨h1, h2, h3, h4, h5, h6⟩ := hr
    rw [h1, h2, h3, h4, h5, h6]
    exact ⟨OwnL.nil _ _ _, OwnL.nil _ _ _, fun _ _ x hx => absurd hx List.not_mem_nil⟩
theorem Bd.modO {pre : List Ob} {o o' : Ob} {oA : Option Addr} {oC : Nat} {fns : List Fn} {fA : Option Addr} {fC : Nat} {mn : Int} {Ao Af Bb Br Bs Bc E Ao' Bb' Br' : HL} (B : Bd ⟨pre ++ [o], oA, oC, fns, fA, fC, mn⟩ Ao Af Bb Br Bs Bc E)
    (ho : OwnL 66 5 Ob.cells (.slice oA (pre ++ [o']).length oC) (pre ++ [o']) Ao') (hb : OwnL 5 1 fB (.slice o'.bA o'.bytes.length o'.bC) o'.bytes Bb') (hr : OwnL 78 3 Rel.cells (.slice o'.rA o'.rels.length o'.rC) o'.rels Br') :
    Bd ⟨pre ++ [o'], oA, oC, fns, fA, fC, mn⟩ Ao' Af Bb' Br' Bs Bc E where
  o := ho
  f := B.f
  oE := fun p q hq x hx H hH => by obtain ⟨rfl, rfl⟩ := snoc_inj hq; exact B.oE pre o rfl x hx H hH
  oL := fun p q hq => by obtain ⟨rfl, rfl⟩ := snoc_inj hq; exact ⟨hb, hr⟩
  fE := B.fE
  fL := B.fL
theorem Bd.modF {obs : List Ob} {oA : Option Addr} {oC : Nat} {pre : List Fn} {f f' : Fn} {fA : Option Addr} {fC : Nat} {mn : Int} {Ao Af Bb Br Bs Bc E Af' Bs' Bc' Aa : HL} (B : Bd ⟨obs, oA, oC, pre ++ [f], fA, fC, mn⟩ Ao Af Bb Br Bs Bc E)
    (hf : OwnL 32 6 Fn.cells (.slice fA (pre ++ [f']).length fC) (pre ++ [f']) Af') (hs : OwnL 90 2 Slt.cells (.slice f'.sA f'.slots.length f'.sC) f'.slots Bs') (hc : OwnL 43 12 Ins.cells (.slice f'.cA f'.code.length f'.cC) f'.code Bc')
    (ha : ∀ H, Hd H (Aa ++ E) → ∀ x ∈ f'.code, Rd H Arg.cells 2 x.aA x.args) : Bd ⟨obs, oA, oC, pre ++ [f'], fA, fC, mn⟩ Ao Af' Bb Br Bs' Bc' (Aa ++ E) where
  o := B.o
  f := hf
  oE := fun p q hq x hx H hH => B.oE p q hq x hx H hH.r
  oL := B.oL
  fE := fun p q hq x hx H hH => by obtain ⟨rfl, rfl⟩ := snoc_inj hq; exact B.fE pre f rfl x hx H hH.r
  fL := fun p q hq => by obtain ⟨rfl, rfl⟩ := snoc_inj hq; exact ⟨hs, hc, ha⟩
theorem re_cells {pre : List Ob} {o o' : Ob} {oA : Option Addr} {oC : Nat} {fns : List Fn} {fA : Option Addr} {fC : Nat} {mn : Int} : (⟨pre ++ [o'], oA, oC, fns, fA, fC, mn⟩ : Pr).cells = (⟨pre ++ [o], oA, oC, fns, fA, fC, mn⟩ : Pr).cells := by
  unfold Pr.cells; simp
theorem sl_cells {obs : List Ob} {oA : Option Addr} {oC : Nat} {pre : List Fn} {f f' : Fn} {fA : Option Addr} {fC : Nat} {mn : Int} : (⟨obs, oA, oC, pre ++ [f'], fA, fC, mn⟩ : Pr).cells = (⟨obs, oA, oC, pre ++ [f], fA, fC, mn⟩ : Pr).cells := by
  unfold Pr.cells; simp
theorem da_len {o : Ob} {bs : List Int} (h : bs.length ≤ o.bytes.length) : (bs ++ o.bytes.drop bs.length).length = o.bytes.length := by rw [List.length_append, List.length_drop]; omega
theorem da_ob {o : Ob} {bs : List Int} (h : bs.length ≤ o.bytes.length) : Ob.cells { o with bytes := bs ++ o.bytes.drop bs.length } = Ob.cells o := by unfold Ob.cells; rw [da_len h]
theorem da_own {pre : List Ob} {o : Ob} {bs : List Int} {oA : Option Addr} {oC : Nat} {A : HL} (ho : OwnL 66 5 Ob.cells (.slice oA (pre ++ [o]).length oC) (pre ++ [o]) A) (h : bs.length ≤ o.bytes.length) :
    OwnL 66 5 Ob.cells (.slice oA (pre ++ [{ o with bytes := bs ++ o.bytes.drop bs.length }]).length oC) (pre ++ [{ o with bytes := bs ++ o.bytes.drop bs.length }]) A := by
  unfold OwnL at ho ⊢
  have e1 : (pre ++ [{ o with bytes := bs ++ o.bytes.drop bs.length }]).length = (pre ++ [o]).length := by simp
  have e2 : (pre ++ [{ o with bytes := bs ++ o.bytes.drop bs.length }]).flatMap Ob.cells = (pre ++ [o]).flatMap Ob.cells := by rw [List.flatMap_append, List.flatMap_append, List.flatMap_singleton, List.flatMap_singleton, da_ob h]
  rw [e1, e2]; exact ho
theorem da_cells {pre : List Ob} {o : Ob} {bs : List Int} {oA : Option Addr} {oC : Nat} {fns : List Fn} {fA : Option Addr} {fC : Nat} {mn : Int} (h : bs.length ≤ o.bytes.length) : (⟨pre ++ [{ o with bytes := bs ++ o.bytes.drop bs.length }], oA, oC, fns, fA, fC, mn⟩ : Pr).cells = (⟨pre ++ [o], oA, oC, fns, fA, fC, mn⟩ : Pr).cells := by
  unfold Pr.cells; simp
/-- What is read is small. -/
def Sml (pr : Pr) : Prop := pr.obs.length ≤ 2000000 ∧ pr.fns.length ≤ 2000000 ∧ (∀ o ∈ pr.obs, o.rels.length ≤ 2000000) ∧ ∀ f ∈ pr.fns, f.slots.length ≤ 2000000 ∧ f.code.length ≤ 2000000
/-- The body of a round. -/
noncomputable def bodyC : Code := match Tryz.f42.body with
  | some (.seq _ (.seq _ (.seq (.seq _ (.block _ (.rangeFunc _ _ _ c))) _))) => c
  | _ => .skip
abbrev FF (l : Nat) (r : Obj) (b2 : Nat) (pr : Pr) (Ao Af Bb Br Bs Bc E : HL) : RL := [[(l, r)], [(b2, .cells ⟨pr.cells⟩ 25 (0, 0))], Ao, Af, Bb, Br, Bs, Bc, E]
noncomputable abbrev XR (l : Nat) (w : World) (A : HL) : Cx := ⟨Tryz.sx, some l, 0, Tryz.f42.ntmps, [], w, A⟩
section
variable {X : Cx} {w : World} {l b2 : Nat} {r : Obj} {pr : Pr} {Ao Af Bb Br Bs Bc E D G : HL}
theorem ff_fu (H : Hp X w (FF l r b2 pr Ao Af Bb Br Bs Bc E)) : Hp X w (FF l r b2 pr Ao Af Bb Br [] [] (Bs ++ (Bc ++ E))) := hp_flat (by simp [FF]) H
theorem ff_ob (H : Hp X w (G :: D :: FF l r b2 pr Ao Af Bb Br Bs Bc E)) : Hp X w (FF l r b2 pr Ao Af G [] Bs Bc (Bb ++ (Br ++ E))) := hp_cnt D H (fun a => by simp only [FF, List.cons_append, List.nil_append, List.flatten_append, List.flatten_cons, List.flatten_nil, List.count_append, List.count_cons, List.count_nil, List.append_nil]; omega)
theorem ff_da (H : Hp X w ([[(b2, .cells ⟨pr.cells⟩ 25 (0, 0))], Ao, Bb, [(l, r)], Af, Br, Bs, Bc, E])) : Hp X w (FF l r b2 pr Ao Af Bb Br Bs Bc E) := hp_cnt [] H (fun a => by simp only [FF, List.cons_append, List.nil_append, List.flatten_append, List.flatten_cons, List.flatten_nil, List.count_append, List.count_cons, List.count_nil, List.append_nil]; omega)
theorem ff_re (H : Hp X w ([Ao, [(l, r)], [(b2, .cells ⟨pr.cells⟩ 25 (0, 0))], Af, Bb, Br, Bs, Bc, E])) : Hp X w (FF l r b2 pr Ao Af Bb Br Bs Bc E) := hp_cnt [] H (fun a => by simp only [FF, List.cons_append, List.nil_append, List.flatten_append, List.flatten_cons, List.flatten_nil, List.count_append, List.count_cons, List.count_nil, List.append_nil]; omega)
theorem ff_sl (H : Hp X w ([Af, [(l, r)], [(b2, .cells ⟨pr.cells⟩ 25 (0, 0))], Ao, Bb, Br, Bs, Bc, E])) : Hp X w (FF l r b2 pr Ao Af Bb Br Bs Bc E) := hp_cnt [] H (fun a => by simp only [FF, List.cons_append, List.nil_append, List.flatten_append, List.flatten_cons, List.flatten_nil, List.count_append, List.count_cons, List.count_nil, List.append_nil]; omega)
theorem ff_in (H : Hp X w ([Af, [(l, r)], [(b2, .cells ⟨pr.cells⟩ 25 (0, 0))], Ao, Bb, Br, Bs, Bc, E, D])) : Hp X w (FF l r b2 pr Ao Af Bb Br Bs Bc (D ++ E)) := hp_cnt [] H (fun a => by simp only [FF, List.cons_append, List.nil_append, List.flatten_append, List.flatten_cons, List.flatten_nil, List.count_append, List.count_cons, List.count_nil, List.append_nil]; omega)
end
/-- What a round leaves. -/
def Left (ℓ : Ln) (l : Nat) (r : Obj) (b2 : Nat) (w : World) (A : HL) (pr : Pr) (Q : Post) : Prop :=
  ∀ pr' Ao Af Bb Br Bs Bc E, Bd pr' Ao Af Bb Br Bs Bc E → pr'.er = ℓ.app pr.er → GQ (XR l w A) Q .normal [] (FF l r b2 pr' Ao Af Bb Br Bs Bc E)
set_option maxHeartbeats 16000000 in
theorem round_ma (n : Int) (l : Nat) (r : Obj) (b2 : Nat) (w : World) (A : HL) (pr : Pr) (Ao Af Bb Br Bs Bc E : HL) (Q : Post) (B : Bd pr Ao Af Bb Br Bs Bc E) (hm : M0 (Oldh (XR l w A))) (hn : sm n) (hlen : (Lib.join (Ln.words (Ln.ma n)) [32]).length ≤ 1000000000) (kk : Left (Ln.ma n) l r b2 w A pr Q) : GC (XR l w A) bodyC Q [(2, .pointer (some ⟨b2, 0, none⟩)), (4, .string (mkB (lnB ((Ln.ma n).words))))] (FF l r b2 pr Ao Af Bb Br Bs Bc E) := by
  have hok : okW (Ln.ma n).words := by
    intro x hx
    simp only [Ln.words, relW, slotW, List.mem_cons, List.not_mem_nil, or_false] at hx
    rcases hx with rfl | rfl
    · exact okB_dec (by decide)
    · exact itoa_ok n
  refine gc_block ?_
  refine gc_seq ?_
  repeat' (first | refine g_pv rfl rfl ?_ | refine gc_region ?_)
  refine g_call rfl (Cl.of Tryz.func68 rfl rfl) rfl rfl (fun w' hE => trimS_sp (k_main :: [Lib.itoa n]) w' (Nat.le_trans hlen (by decide))) rfl (fun _ _ => ?_)
  refine g_call rfl (Cl.of Tryz.func67 rfl rfl) rfl rfl (fun w' hE => splitS_sp (k_main) ([Lib.itoa n]) w' hok (hm.le (old_le hE)) hlen) rfl (fun g _ => ?_)
  repeat' (fail)
  refine g_p (p_build rfl rfl rfl rfl) rfl ?_
  repeat' (first | refine g_pv rfl rfl ?_ | refine g_nil ?_ | refine gq_then ?_ | refine g_box rfl rfl (fun _ => ?_))
  rename_i b5
  have hR0 : RD b5 (k_main :: [Lib.itoa n]) _ := RD.mk0 b5 g (k_main :: [Lib.itoa n]) _ rfl
  refine gc_heap (R' := [[(b5, .cells ⟨[.slice (some ⟨g, 0, none⟩) _ _]⟩ 127 (0, 0))], [(g, .cells ⟨(k_main :: [Lib.itoa n]).flatMap strW⟩ 9 (0, 0))]] ++ (FF l r b2 pr Ao Af Bb Br Bs Bc E)) (fun w H => H) ?_
  generalize [[(b5, Obj.cells ⟨[.slice (some ⟨g, 0, none⟩) _ _]⟩ 127 (0, 0))], [(g, Obj.cells ⟨(k_main :: [Lib.itoa n]).flatMap strW⟩ 9 (0, 0))]] = R0 at hR0 ⊢
  refine gc_seq ?_
  refine gc_seq ?_
  repeat' (first | refine g_pv rfl rfl ?_ | refine gc_region ?_)
  refine g_call1 (A := R0) (F := FF l r b2 pr Ao Af Bb Br Bs Bc E) rfl rfl (Cl.of Tryz.func69 rfl rfl) rfl rfl (fun w' hE' => wnext_sp b5 _ _ R0 w' hR0 (hp_own hE')) rfl (fun R1 hR1 => ?_)
  refine g_heap (R' := (FF l r b2 pr Ao Af Bb Br Bs Bc E) ++ R1) (fun w H => hp_permL H List.perm_append_comm) ?_
  repeat' (first | refine g_pv rfl rfl ?_ | refine g_nil ?_ | refine gq_then ?_)
  refine gc_seq ?_
  repeat' (first | refine g_pv rfl rfl ?_ | refine g_nil ?_ | refine gq_then ?_ | refine gc_region ?_ | refine gc_block ?_)
  repeat' (first | refine gc_seq ?_ | refine gc_region ?_)
  refine g_p (p_eqT rfl rfl rfl) rfl ?_
  refine g_eq 64 (u' := .bool false) rfl (congrArg Value.bool ((eqT_mk (k_main) k_object).trans (by decide))) ?_
  repeat' (first | refine g_pv rfl rfl ?_ | refine g_nil ?_ | refine gq_then ?_ | refine gc_seq ?_ | refine gc_region ?_ | refine gc_cond_f rfl ?_)
  refine g_p (p_eqT rfl rfl rfl) rfl ?_
  refine g_eq 93 (u' := .bool false) rfl (congrArg Value.bool ((eqT_mk (k_main) k_data).trans (by decide))) ?_
  repeat' (first | refine g_pv rfl rfl ?_ | refine g_nil ?_ | refine gq_then ?_ | refine gc_seq ?_ | refine gc_region ?_ | refine gc_cond_f rfl ?_)
  refine g_p (p_eqT rfl rfl rfl) rfl ?_
  refine g_eq 113 (u' := .bool false) rfl (congrArg Value.bool ((eqT_mk (k_main) k_reloc).trans (by decide))) ?_
  repeat' (first | refine g_pv rfl rfl ?_ | refine g_nil ?_ | refine gq_then ?_ | refine gc_seq ?_ | refine gc_region ?_ | refine gc_cond_f rfl ?_)
  refine g_p (p_eqT rfl rfl rfl) rfl ?_
  refine g_eq 144 (u' := .bool false) rfl (congrArg Value.bool ((eqT_mk (k_main) k_func).trans (by decide))) ?_
  repeat' (first | refine g_pv rfl rfl ?_ | refine g_nil ?_ | refine gq_then ?_ | refine gc_seq ?_ | refine gc_region ?_ | refine gc_cond_f rfl ?_)
  refine g_p (p_eqT rfl rfl rfl) rfl ?_
  refine g_eq 162 (u' := .bool true) rfl (congrArg Value.bool ((eqT_mk (k_main) k_main).trans (by decide))) ?_
  repeat' (first | refine g_pv rfl rfl ?_ | refine g_nil ?_ | refine gq_then ?_ | refine gc_region ?_ | refine gc_cond_t rfl ?_)
  refine g_heap (R' := R1 ++ FF l r b2 pr Ao Af Bb Br Bs Bc E) (fun w H => hp_permL H List.perm_append_comm) ?_
  refine g_call1 (A := R1) (F := FF l r b2 pr Ao Af Bb Br Bs Bc E) rfl rfl (Cl.of Tryz.func70 rfl rfl) rfl rfl (fun w' hE' => num_sp b5 _ _ R1 w' hn hR1 (hp_own hE')) rfl (fun R2 hR2 => ?_)
  refine g_heap (R' := FF l r b2 pr Ao Af Bb Br Bs Bc E ++ R2) (fun w H => hp_permL H List.perm_append_comm) ?_
  repeat' (first | refine g_pv rfl rfl ?_ | refine g_nil ?_ | refine gq_then ?_ | refine gc_region ?_ | refine gq_block ?_ | refine g_st 1 rfl rfl rfl rfl rfl rfl rfl ?_)
  have hRz := hR2
  obtain ⟨ad9, c9, g9, cs9, rfl, -, -⟩ := hRz
  repeat' (fail)
  refine g_ld 9 rfl rfl rfl rfl rfl rfl ?_
  repeat' (refine g_pv rfl rfl ?_)
  refine g_call rfl (Cl.of Tryz.func71 rfl rfl) rfl rfl (fun w' hE => must_sp w') rfl (fun _ _ => ?_)
  repeat' (first | refine g_nil ?_ | refine gq_block ?_)
  exact gq_sub (L' := []) trivial (gq_hp (R' := FF l r b2 { pr with main := n } Ao Af Bb Br Bs Bc E) (fun w' H => (hp_fst (S := [[(b5, _)], [(g9, _)]]) H)) (kk { pr with main := n } Ao Af Bb Br Bs Bc E (⟨B.o, B.f, B.oE, B.oL, B.fE, B.fL⟩) (rfl)))
end Go.Proofs.YtpohhfggmaihpaaGreatDoor

/- A program that may be: what each of its lines finds. -/
namespace Go.Proofs.YtpohhfggmaihpaaGreatDoor
open Go.Wk
set_option linter.unusedVariables false
set_option linter.unusedSimpArgs false
attribute [local irreducible] G GC GQ GA GS Exit.then Exit.inBlock

def okL : Ln → Pr → Prop
  | .ob _ size al, _ => 0 ≤ size ∧ size ≤ 16384 ∧ sm al
  | .da bs, p => (∀ b ∈ bs, 0 ≤ b ∧ b ≤ 255) ∧ ∃ pre o, p.obs = pre ++ [o] ∧ bs.length ≤ o.bytes.length ∧ o.bytes.length ≤ 16384
  | .re r, p => sm r.off ∧ sm r.gl ∧ sm r.add ∧ ∃ pre o, p.obs = pre ++ [o]
  | .fu _ pa te _, _ => sm pa ∧ sm te
  | .ma n, _ => sm n
  | .sl s, p => sm s.size ∧ sm s.align ∧ ∃ pre f, p.fns = pre ++ [f]
  | .ins x, p => PI x ∧ binOk x ∧ SmI x ∧ ShI x ∧ ∃ pre f, p.fns = pre ++ [f]
def okS (ℓ : Ln) (p : Pr) : Prop := okL ℓ p ∧ Sml p ∧ okW ℓ.words
def okR : List Ln → Pr → Prop
  | [], _ => True
  | ℓ :: t, p => okS ℓ p ∧ okR t (ℓ.app p)
theorem okR_app : ∀ {l m : List Ln} {p : Pr}, okR l p → okR m (rd l p) → okR (l ++ m) p
  | [], _, _, _, h => h
  | _ :: _, _, _, h, h2 => ⟨h.1, okR_app h.2 h2⟩
theorem okR_at : ∀ {l : List Ln} {p : Pr} {k : Nat} {ℓ : Ln}, okR l p → l[k]? = some ℓ → okS ℓ (rd (l.take k) p)
  | [], _, _, _, _, h => by simp at h
  | a :: t, p, 0, ℓ, h, hk => by
    simp only [List.getElem?_cons_zero, Option.some.injEq] at hk
    subst hk; exact h.1
  | a :: t, p, k + 1, ℓ, h, hk => okR_at (l := t) h.2 (by simpa using hk)
/-- Bounds that hold all through. -/
structure B1 (p : Pr) : Prop where
  o : p.obs.length ≤ 256
  f : p.fns.length ≤ 64
  r : ∀ o ∈ p.obs, o.rels.length ≤ 4096
  c : ∀ f ∈ p.fns, f.slots.length ≤ 256 ∧ f.code.length ≤ 16384
theorem B1.sml {p : Pr} (h : B1 p) : Sml p := ⟨by have := h.o; omega, by have := h.f; omega, fun o ho => by have := h.r o ho; omega, fun f hf => by have := h.c f hf; omega⟩
theorem okB_nil : okB [] := fun c h => by cases h
theorem okB_argT (a : Arg) : okB (argT a) := by
  unfold argT
  refine cons_ok ?_ (itoa_ok _)
  split <;> (constructor <;> decide)
theorem okB_tmpT (n : Int) : okB (tmpT n) := cons_ok (by constructor <;> decide) (itoa_ok _)
theorem names_ok : (names19.all fun s => (bytesL s).all (fun c => c != 32 && c != 10)) = true := by kernel_rfl
theorem okB_name (n : Int) : okB (bytesL (nameL n)) := by
  unfold nameL
  split
  · rw [List.getD_eq_getElem?_getD]
    cases hq : names19[(n - 1).toNat]? with
    | none => exact okB_nil
    | some b => exact okB_dec (List.all_eq_true.1 names_ok b (List.mem_of_getElem? hq))
  · exact okB_nil
theorem cw {x : Bs} {W : List Bs} (h : okB x) (hW : okW W) : okW (x :: W) := fun y hy => by
  rcases List.mem_cons.1 hy with rfl | hy
  · exact h
  · exact hW y hy
theorem nw : okW [] := fun y hy => by cases hy
theorem okW_ins (x : Ins) : okW (insW x) := by
  have h1 := okB_tmpT x.d
  have h2 := okB_argT x.a
  have h3 := okB_argT x.b
  have h4 := itoa_ok x.n
  have h5 := itoa_ok x.off
  have h6 := itoa_ok x.width
  have h7 := okB_name x.bin
  have hw : ∀ k ∈ keyW ++ [k_signed, [45]], okB k := fun k hk => okB_dec (List.all_eq_true.1 (show ((keyW ++ [k_signed, [45]]).all fun s => s.all (fun c => c != 32 && c != 10)) = true by kernel_rfl) k hk)
  have g : ∀ k, k ∈ keyW ++ [k_signed, [45]] → okB k := hw
  have hd : okB (if x.d < 0 then [45] else tmpT x.d) := by
    split
    · exact g _ (by decide)
    · exact h1
  have hb : okB (bytesL (nameL x.bin)) := h7
  have two : ∀ {k : Bs} {W : List Bs}, k ∈ keyW ++ [k_signed, [45]] → okW W → okW (k :: W) := fun hk hW => cw (g _ hk) hW
  unfold insW
  by_cases e1 : x.op = 1
  · rw [if_pos e1]; exact two (by decide) (cw h1 (cw h2 nw))
  rw [if_neg e1]
  by_cases e2 : x.op = 2
  · rw [if_pos e2]; exact cw hb (cw h1 (cw h2 (cw h3 nw)))
  rw [if_neg e2]
  by_cases e3 : x.op = 3
  · rw [if_pos e3]; exact two (by decide) (cw h1 (cw h4 (cw h5 nw)))
  rw [if_neg e3]
  by_cases e4 : x.op = 4
  · rw [if_pos e4]; exact two (by decide) (cw h1 (cw h4 (cw h5 nw)))
  rw [if_neg e4]
  by_cases e5 : x.op = 5
  · rw [if_pos e5]
    refine two (by decide) (cw h1 (cw h2 (cw h5 (cw h6 ?_))))
    show okW ([] ++ _)
    rw [List.nil_append]
    split
    · exact two (by decide) nw
    · exact nw
  rw [if_neg e5]
  by_cases e6 : x.op = 6
  · rw [if_pos e6]; exact two (by decide) (cw h2 (cw h5 (cw h3 (cw h6 nw))))
  rw [if_neg e6]
  by_cases e7 : x.op = 7
  · rw [if_pos e7]; exact two (by decide) (cw h2 (cw h3 (cw h5 (cw h6 nw))))
  rw [if_neg e7]
  by_cases e8 : x.op = 8
  · rw [if_pos e8]
    refine two (by decide) (cw hd (cw h4 ?_))
    show okW ([] ++ _)
    rw [List.nil_append]
    intro y hy
    obtain ⟨a, -, rfl⟩ := List.mem_map.1 hy
    exact okB_argT a
  rw [if_neg e8]
  by_cases e9 : x.op = 9
  · rw [if_pos e9]
    split
    · exact two (by decide) nw
    · exact two (by decide) (cw h2 nw)
  rw [if_neg e9]
  by_cases e10 : x.op = 10
  · rw [if_pos e10]; exact two (by decide) (cw h4 nw)
  rw [if_neg e10]
  by_cases e11 : x.op = 11
  · rw [if_pos e11]; exact two (by decide) (cw h2 (cw h4 nw))
  rw [if_neg e11]
  by_cases e12 : x.op = 12
  · rw [if_pos e12]; exact two (by decide) (cw h2 nw)
  rw [if_neg e12]
  by_cases e13 : x.op = 13
  · rw [if_pos e13]; exact two (by decide) (cw h1 nw)
  rw [if_neg e13]
  exact two (by decide) (cw h2 nw)
theorem low_sp : lowI 32 = 32 ∧ lowI 10 = 42 := by constructor <;> decide
theorem badC_sp (i : Nat) : badC i 32 = true ∧ badC i 10 = true := by
  unfold badC
  rw [low_sp.1, low_sp.2]
  constructor <;> simp
theorem okB_letters {s : ByteArray} (h : lettersB s = true) : okB (bytesL s) := by
  unfold lettersB at h
  simp only [Bool.and_eq_true] at h
  intro c hc
  obtain ⟨i, hi, hg⟩ := List.getElem_of_mem hc
  have h1 := List.all_eq_true.1 h.2.2 i (List.mem_range.2 hi)
  rw [List.getElem?_eq_getElem hi, hg, Option.getD_some] at h1
  constructor
  · rintro rfl
    rw [show (((32 : UInt8).toNat : Nat) : Int) = 32 from rfl, (badC_sp i).1] at h1; cases h1
  · rintro rfl
    rw [show (((10 : UInt8).toNat : Nat) : Int) = 10 from rfl, (badC_sp i).2] at h1; cases h1
theorem trim_all {l cs : List UInt8} (h : Lib.trimS l cs = []) : ∀ c ∈ l, cs.contains c = true := by
  have hd : ∀ {m : List UInt8}, m.dropWhile (cs.contains ·) = [] → ∀ c ∈ m, cs.contains c = true := fun {m} hm => by
    induction m with
    | nil => intro c hc; cases hc
    | cons a t ih =>
      by_cases ha : cs.contains a = true
      · rw [List.dropWhile_cons_of_pos ha] at hm
        intro c hc
        rcases List.mem_cons.1 hc with rfl | hc
        · exact ha
        · exact ih hm c hc
      · rw [List.dropWhile_cons_of_neg ha] at hm; cases hm
  unfold Lib.trimS Lib.trimLeftS Lib.trimRightS at h
  have h1 := hd h
  intro c hc
  by_cases hq : cs.contains c = true
  · exact hq
  · have : c ∈ (l.reverse.dropWhile (cs.contains ·)).reverse := by
      rw [List.mem_reverse]
      have hm : c ∈ l.reverse := List.mem_reverse.2 hc
      rw [← List.takeWhile_append_dropWhile (p := (cs.contains ·)) (l := l.reverse)] at hm
      rcases List.mem_append.1 hm with hm | hm
      · exact absurd (List.all_eq_true.1 List.all_takeWhile c hm) hq
      · exact hm
    exact h1 c this
theorem okB_tag {s : ByteArray} (h : tagB s = true) : okB (bytesL s) := by
  unfold tagB at h
  split at h
  · rename_i hp
    simp only [Bool.and_eq_true, List.isEmpty_iff] at h
    have h1 := trim_all h.2.2
    obtain ⟨t, ht⟩ : ∃ t, bytesL s = 35 :: t := by
      obtain ⟨t, ht⟩ := List.isPrefixOf_iff_prefix.1 (show ([35] : List UInt8).isPrefixOf (bytesL s) = true from hp)
      exact ⟨t, ht.symm⟩
    unfold Lib.trimPrefix at h1
    rw [if_pos hp, ht] at h1
    rw [ht]
    refine cons_ok (by constructor <;> decide) (fun c hc => ?_)
    have h2 := h1 c hc
    have h3 : ∀ c ∈ digits10, okC c := by unfold digits10 okC; decide
    exact h3 c (by simpa using h2)
  · exact okB_letters h
end Go.Proofs.YtpohhfggmaihpaaGreatDoor

/- A program that may be: all its lines are read. -/
namespace Go.Proofs.YtpohhfggmaihpaaGreatDoor
open Go.Wk
set_option linter.unusedVariables false
set_option linter.unusedSimpArgs false
attribute [local irreducible] G GC GQ GA GS Exit.then Exit.inBlock

/-- An object that may be. -/
structure GO (o : Ob) : Prop where
  nm : okB (bytesL o.nm)
  s1 : 0 ≤ o.size
  s2 : o.size ≤ 16384
  al : sm o.align
  bl : (o.bytes.length : Int) = o.size
  bs : ∀ b ∈ o.bytes, 0 ≤ b ∧ b ≤ 255
  rl : o.rels.length ≤ 4096
  rs : ∀ r ∈ o.rels, sm r.off ∧ sm r.gl ∧ sm r.add
structure GI (x : Ins) : Prop where
  p : PI x
  b : binOk x
  s : SmI x
  h : ShI x
structure GF (f : Fn) : Prop where
  nm : okB (bytesL f.nm)
  pa : sm f.pa
  te : sm f.te
  sl : f.slots.length ≤ 256
  ss : ∀ s ∈ f.slots, sm s.size ∧ sm s.align
  cl : f.code.length ≤ 16384
  cs : ∀ x ∈ f.code, GI x
theorem okB_hex {bs : List Int} (h : ∀ b ∈ bs, 0 ≤ b ∧ b ≤ 255) : okB (bs.flatMap hex2) := by
  have hh : ∀ n : Int, okC (hd n) := fun n => by
    unfold hd
    rw [List.getD_eq_getElem?_getD]
    cases hq : hexd[n.toNat]? with
    | none => constructor <;> decide
    | some c =>
      have h3 : ∀ c ∈ hexd, okC c := by unfold hexd okC; decide
      exact h3 c (List.mem_of_getElem? hq)
  intro c hc
  obtain ⟨b, -, hb⟩ := List.mem_flatMap.1 hc
  unfold hex2 at hb
  simp only [List.mem_cons, List.not_mem_nil, or_false] at hb
  rcases hb with rfl | rfl <;> exact hh _
theorem kw {k : Bs} (h : (k.all fun c => c != 32 && c != 10) = true) : okB k := okB_dec h
theorem okW_cons {x : Bs} {W : List Bs} (h : okB x) (hW : okW W) : okW (x :: W) := fun y hy => by
  rcases List.mem_cons.1 hy with rfl | hy
  · exact h
  · exact hW y hy
theorem okW_nil : okW [] := fun y hy => by cases hy
theorem B1.re {pre : List Ob} {o : Ob} {p : Pr} (h : B1 p) (hp : p.obs = pre ++ [o]) {r : Rel} (hr : o.rels.length + 1 ≤ 4096) : B1 { p with obs := pre ++ [{ o with rels := o.rels ++ [r] }] } where
  o := by have := h.o; rw [hp] at this; simpa using this
  f := h.f
  r := fun q hq => by
    rcases List.mem_append.1 hq with hq | hq
    · exact h.r q (by rw [hp]; exact List.mem_append_left _ hq)
    · rw [List.mem_singleton] at hq; subst hq
      simpa using hr
  c := h.c
theorem B1.sl {pre : List Fn} {f : Fn} {p : Pr} (h : B1 p) (hp : p.fns = pre ++ [f]) {s : Slt} (hr : f.slots.length + 1 ≤ 256) : B1 { p with fns := pre ++ [{ f with slots := f.slots ++ [s] }] } where
  o := h.o
  f := by have := h.f; rw [hp] at this; simpa using this
  r := h.r
  c := fun q hq => by
    rcases List.mem_append.1 hq with hq | hq
    · exact h.c q (by rw [hp]; exact List.mem_append_left _ hq)
    · rw [List.mem_singleton] at hq; subst hq
      exact ⟨by simpa using hr, (h.c f (by rw [hp]; simp)).2⟩
theorem B1.co {pre : List Fn} {f : Fn} {p : Pr} (h : B1 p) (hp : p.fns = pre ++ [f]) {x : Ins} (hr : f.code.length + 1 ≤ 16384) : B1 { p with fns := pre ++ [{ f with code := f.code ++ [x] }] } where
  o := h.o
  f := by have := h.f; rw [hp] at this; simpa using this
  r := h.r
  c := fun q hq => by
    rcases List.mem_append.1 hq with hq | hq
    · exact h.c q (by rw [hp]; exact List.mem_append_left _ hq)
    · rw [List.mem_singleton] at hq; subst hq
      exact ⟨(h.c f (by rw [hp]; simp)).1, by simpa using hr⟩
theorem okR_rels (pre : List Ob) : ∀ (l : List Rel) (o : Ob) (p : Pr), p.obs = pre ++ [o] → B1 p → o.rels.length + l.length ≤ 4096 → (∀ r ∈ l, sm r.off ∧ sm r.gl ∧ sm r.add) → okR (l.map .re) p
  | [], _, _, _, _, _, _ => trivial
  | r :: t, o, p, hp, hB, hl, hs => by
    rw [List.length_cons] at hl
    obtain ⟨h1, h2, h3⟩ := hs r List.mem_cons_self
    refine ⟨⟨⟨h1, h2, h3, pre, o, hp⟩, hB.sml, ?_⟩, ?_⟩
    · exact okW_cons (kw (by decide)) (okW_cons (itoa_ok _) (okW_cons (itoa_ok _) (okW_cons (itoa_ok _) okW_nil)))
    · have e : Ln.app (.re r) p = { p with obs := pre ++ [{ o with rels := o.rels ++ [r] }] } := by simp only [Ln.app]; rw [hp, modL_snoc]
      rw [e]
      exact okR_rels pre t _ _ rfl (hB.re hp (by omega)) (by simp; omega) (fun r hr => hs r (List.mem_cons_of_mem _ hr))
theorem okR_slots (pre : List Fn) : ∀ (l : List Slt) (f : Fn) (p : Pr), p.fns = pre ++ [f] → B1 p → f.slots.length + l.length ≤ 256 → (∀ s ∈ l, sm s.size ∧ sm s.align) → okR (l.map .sl) p
  | [], _, _, _, _, _, _ => trivial
  | r :: t, o, p, hp, hB, hl, hs => by
    rw [List.length_cons] at hl
    obtain ⟨h1, h2⟩ := hs r List.mem_cons_self
    refine ⟨⟨⟨h1, h2, pre, o, hp⟩, hB.sml, ?_⟩, ?_⟩
    · exact okW_cons (kw (by decide)) (okW_cons (itoa_ok _) (okW_cons (itoa_ok _) okW_nil))
    · have e : Ln.app (.sl r) p = { p with fns := pre ++ [{ o with slots := o.slots ++ [r] }] } := by simp only [Ln.app]; rw [hp, modL_snoc]
      rw [e]
      exact okR_slots pre t _ _ rfl (hB.sl hp (by omega)) (by simp; omega) (fun r hr => hs r (List.mem_cons_of_mem _ hr))
theorem okR_code (pre : List Fn) : ∀ (l : List Ins) (f : Fn) (p : Pr), p.fns = pre ++ [f] → B1 p → f.code.length + l.length ≤ 16384 → (∀ x ∈ l, GI x) → okR (l.map .ins) p
  | [], _, _, _, _, _, _ => trivial
  | r :: t, o, p, hp, hB, hl, hs => by
    rw [List.length_cons] at hl
    have h1 := hs r List.mem_cons_self
    refine ⟨⟨⟨h1.p, h1.b, h1.s, h1.h, pre, o, hp⟩, hB.sml, okW_ins r⟩, ?_⟩
    have e : Ln.app (.ins r) p = { p with fns := pre ++ [{ o with code := o.code ++ [r.er] }] } := by simp only [Ln.app]; rw [hp, modL_snoc]
    rw [e]
    exact okR_code pre t _ _ rfl (hB.co hp (by omega)) (by simp; omega) (fun r hr => hs r (List.mem_cons_of_mem _ hr))
theorem okR_obj (o : Ob) (p : Pr) (hG : GO o) (hB : B1 p) (hl : p.obs.length + 1 ≤ 256) : okR (obL o) p := by
  have hsz : o.size.toNat = o.bytes.length := by have := hG.bl; omega
  have e1 : ∀ t, okR t { p with obs := p.obs ++ [⟨o.nm, o.size, o.align, List.replicate o.bytes.length 0, none, 0, [], none, 0⟩] } → okR ([.ob o.nm o.size o.align] ++ t) p := fun t ht => by
    refine ⟨⟨⟨hG.s1, hG.s2, hG.al⟩, hB.sml, okW_cons (kw (by decide)) (okW_cons hG.nm (okW_cons (itoa_ok _) (okW_cons (itoa_ok _) okW_nil)))⟩, ?_⟩
    simpa [Ln.app, hsz] using ht
  have hB2 : ∀ b : List Int, B1 { p with obs := p.obs ++ [⟨o.nm, o.size, o.align, b, none, 0, [], none, 0⟩] } := fun b =>
    ⟨by simpa using hl, hB.f, fun q hq => by
      rcases List.mem_append.1 hq with hq | hq
      · exact hB.r q hq
      · rw [List.mem_singleton] at hq; subst hq; exact Nat.zero_le _, hB.c⟩
  unfold obL
  rw [List.append_assoc]
  refine e1 _ (okR_app ?_ ?_)
  · split
    · trivial
    · refine ⟨⟨⟨fun b hb => hG.bs b ?_, p.obs, _, rfl, ?_, ?_⟩, (hB2 _).sml, okW_cons (kw (by decide)) (okW_cons (okB_hex fun b hb => hG.bs b ?_) okW_nil)⟩, trivial⟩
      · have := trimZ_zeros o.bytes
        rw [← this]; exact List.mem_append_left _ hb
      · rw [List.length_replicate]; exact trimZ_len o.bytes
      · rw [List.length_replicate]; have := hG.bl; have := hG.s2; omega
      · have := trimZ_zeros o.bytes
        rw [← this]; exact List.mem_append_left _ hb
  · have key : ∃ b, rd (if trimZ o.bytes = [] then [] else [.da (trimZ o.bytes)]) { p with obs := p.obs ++ [⟨o.nm, o.size, o.align, List.replicate o.bytes.length 0, none, 0, [], none, 0⟩] } = { p with obs := p.obs ++ [⟨o.nm, o.size, o.align, b, none, 0, [], none, 0⟩] } := by
      split
      · exact ⟨_, rfl⟩
      · exact ⟨_, by simp only [rd, List.foldl_cons, List.foldl_nil, Ln.app, modL_snoc]; rfl⟩
    obtain ⟨b, hb⟩ := key
    rw [hb]
    exact okR_rels p.obs o.rels _ _ rfl (hB2 b) (by simpa using hG.rl) hG.rs
theorem okR_fn (f : Fn) (p : Pr) (hG : GF f) (hB : B1 p) (hl : p.fns.length + 1 ≤ 64) : okR (fnL f) p := by
  have hB2 : ∀ s : List Slt, s.length ≤ 256 → B1 { p with fns := p.fns ++ [⟨f.nm, f.pa, f.te, f.gi, s, none, 0, [], none, 0⟩] } := fun s hs =>
    ⟨hB.o, by simpa using hl, hB.r, fun q hq => by
      rcases List.mem_append.1 hq with hq | hq
      · exact hB.c q hq
      · rw [List.mem_singleton] at hq; subst hq; exact ⟨hs, Nat.zero_le _⟩⟩
  unfold fnL
  rw [List.append_assoc]
  refine ⟨⟨⟨hG.pa, hG.te⟩, hB.sml, ?_⟩, (show okR (f.slots.map .sl ++ f.code.map .ins) { p with fns := p.fns ++ [⟨f.nm, f.pa, f.te, f.gi, [], none, 0, [], none, 0⟩] } from okR_app (okR_slots p.fns f.slots _ _ rfl (hB2 [] (Nat.zero_le _)) (by simpa using hG.sl) hG.ss) ?_)⟩
  · refine okW_cons (kw (by decide)) (okW_cons hG.nm (okW_cons (itoa_ok _) (okW_cons (itoa_ok _) ?_)))
    cases f.gi
    · exact okW_nil
    · exact okW_cons (kw (by decide)) okW_nil
  · rw [rd_slots p.fns _ _ f.slots rfl]
    refine okR_code p.fns f.code _ _ rfl ?_ (by simpa using hG.cl) hG.cs
    simpa using hB2 f.slots hG.sl
theorem B1.addO {p : Pr} (h : B1 p) (o : Ob) (hl : p.obs.length + 1 ≤ 256) (hr : o.rels.length ≤ 4096) : B1 { p with obs := p.obs ++ [o] } :=
  ⟨by simpa using hl, h.f, fun q hq => by
    rcases List.mem_append.1 hq with hq | hq
    · exact h.r q hq
    · rw [List.mem_singleton] at hq; subst hq; exact hr, h.c⟩
theorem B1.addF {p : Pr} (h : B1 p) (f : Fn) (hl : p.fns.length + 1 ≤ 64) (hr : f.slots.length ≤ 256 ∧ f.code.length ≤ 16384) : B1 { p with fns := p.fns ++ [f] } :=
  ⟨h.o, by simpa using hl, h.r, fun q hq => by
    rcases List.mem_append.1 hq with hq | hq
    · exact h.c q hq
    · rw [List.mem_singleton] at hq; subst hq; exact hr⟩
theorem okR_objs : ∀ (l : List Ob) (p : Pr), (∀ o ∈ l, GO o) → B1 p → p.obs.length + l.length ≤ 256 → okR (l.flatMap obL) p ∧ B1 (rd (l.flatMap obL) p)
  | [], p, _, h, _ => ⟨trivial, h⟩
  | o :: t, p, hG, hB, hl => by
    rw [List.length_cons] at hl
    have hg := hG o List.mem_cons_self
    have h2 := okR_objs t { p with obs := p.obs ++ [o.er] } (fun x hx => hG x (List.mem_cons_of_mem _ hx)) (hB.addO _ (by omega) (by simpa [Ob.er] using hg.rl)) (by simp; omega)
    rw [List.flatMap_cons, rd_app, rd_obj o p hg.bl]
    exact ⟨okR_app (okR_obj o p hg hB (by omega)) (by rw [rd_obj o p hg.bl]; exact h2.1), h2.2⟩
theorem okR_fns : ∀ (l : List Fn) (p : Pr), (∀ f ∈ l, GF f) → B1 p → p.fns.length + l.length ≤ 64 → okR (l.flatMap fnL) p ∧ B1 (rd (l.flatMap fnL) p)
  | [], p, _, h, _ => ⟨trivial, h⟩
  | f :: t, p, hG, hB, hl => by
    rw [List.length_cons] at hl
    have hg := hG f List.mem_cons_self
    have h2 := okR_fns t { p with fns := p.fns ++ [f.er] } (fun x hx => hG x (List.mem_cons_of_mem _ hx)) (hB.addF _ (by omega) ⟨by simpa [Fn.er] using hg.sl, by simpa [Fn.er] using hg.cl⟩) (by simp; omega)
    rw [List.flatMap_cons, rd_app, rd_fn f p]
    exact ⟨okR_app (okR_fn f p hg hB (by omega)) (by rw [rd_fn f p]; exact h2.1), h2.2⟩
theorem okR_all (p : Pr) (ho : ∀ o ∈ p.obs, GO o) (hf : ∀ f ∈ p.fns, GF f) (hol : p.obs.length ≤ 256) (hfl : p.fns.length ≤ 64) (hm : sm p.main) : okR (prL p) pr0 := by
  have hB0 : B1 pr0 := ⟨Nat.zero_le _, Nat.zero_le _, fun o h => absurd h List.not_mem_nil, fun f h => absurd h List.not_mem_nil⟩
  obtain ⟨h1, h2⟩ := okR_objs p.obs pr0 ho hB0 (by simpa [pr0] using hol)
  have hof : (rd (p.obs.flatMap obL) pr0).fns = [] := by rw [rd_objs _ _ (fun o h => (ho o h).bl)]; rfl
  obtain ⟨h3, h4⟩ := okR_fns p.fns _ hf h2 (by rw [hof]; simpa using hfl)
  unfold prL
  refine okR_app (okR_app h1 h3) ⟨⟨hm, ?_, okW_cons (kw (by decide)) (okW_cons (itoa_ok _) okW_nil)⟩, trivial⟩
  rw [rd_app]; exact h4.sml
end Go.Proofs.YtpohhfggmaihpaaGreatDoor

/- What Check lets through may be read again. -/
namespace Go.Proofs.YtpohhfggmaihpaaGreatDoor
open Go.Wk
set_option linter.unusedVariables false
set_option linter.unusedSimpArgs false
attribute [local irreducible] G GC GQ GA GS Exit.then Exit.inBlock

theorem powB_iff {n : Int} : powB n = true ↔ n = 1 ∨ n = 2 ∨ n = 4 := by unfold powB; simp
theorem bin_range {n : Int} (h : ((nameL n).toList != (⟨#[]⟩ : ByteArray).toList) = true) : 1 ≤ n ∧ n ≤ 19 := by
  by_cases hn : 1 ≤ n ∧ n ≤ 19
  · exact hn
  · unfold nameL at h
    rw [if_neg hn] at h
    simp at h
structure Env (p : Pr) (f : Fn) : Prop where
  ol : p.obs.length ≤ 256
  fl : p.fns.length ≤ 64
  os : ∀ o ∈ p.obs, 1 ≤ o.size ∧ o.size ≤ 16384
  te : f.te ≤ 4096
  sl : f.slots.length ≤ 256
  ss : ∀ s ∈ f.slots, 1 ≤ s.size ∧ s.size ≤ 16384
  cl : f.code.length ≤ 16384
set_option maxHeartbeats 4000000 in
theorem gi_of {p : Pr} {f : Fn} {x : Ins} {H : Nat → Option Obj} (h : rightB true ⟨p, f⟩ x = true) (hP : PI x) (hx : InsIn H x) (hE : Env p f) : GI x := by
  unfold rightB at h
  simp only [Bool.and_eq_true, beq_iff_eq] at h
  obtain ⟨ho, hl, ha⟩ := h
  have hol := hE.ol
  have hfl := hE.fl
  have hte := hE.te
  have hsl := hE.sl
  have hcl := hE.cl
  have hargs : x.op ≠ 8 → x.args = [] := fun h8 => by
    unfold argsN at hl
    rw [if_neg h8] at hl
    exact List.eq_nil_of_length_eq_zero (by omega)
  have hoka := hx.ok x.a (by simp)
  have hokb := hx.ok x.b (by simp)
  have hokr : ∀ a ∈ x.args, a.ok := fun a h => hx.ok a (by simp [h])
  have key : (sm x.d ∧ -1 ≤ x.d) ∧ sm x.n ∧ sm x.off ∧ sm x.width ∧ (x.op = 2 → 1 ≤ x.bin ∧ x.bin ≤ 19) := by
    rcases op_split hP with c | c | c | c | c | c | c | c | c | c | c | c | c | c
    · rw [shape1 c] at ha
      simp only [alikeB, Bool.and_eq_true, beq_iff_eq] at ha
      unfold okI at ho
      simp only [c, if_true, Bool.and_eq_true, inB_iff] at ho
      unfold sm; omega
    · rw [shape2 c] at ha
      simp only [alikeB, Bool.and_eq_true, beq_iff_eq] at ha
      unfold okI at ho
      rw [if_neg (by omega), if_pos c] at ho
      simp only [Bool.and_eq_true, inB_iff] at ho
      have hb := bin_range ho.2.2.2
      unfold sm; omega
    · rw [shape3 c] at ha
      simp only [alikeB, Bool.and_eq_true, beq_iff_eq] at ha
      unfold okI at ho
      rw [if_neg (by omega), if_neg (by omega), if_pos c] at ho
      simp only [Bool.and_eq_true, inB_iff] at ho
      obtain ⟨h1, h2, h3⟩ := ho
      split at h3
      · rename_i s hs
        have hss := hE.ss s (List.mem_of_getElem? hs)
        rw [inB_iff, IntKind.wrap_i64] at h3
        unfold sm; omega
      · cases h3
    · rw [shape4 c] at ha
      simp only [alikeB, Bool.and_eq_true, beq_iff_eq] at ha
      unfold okI at ho
      rw [if_neg (by omega), if_neg (by omega), if_neg (by omega), if_pos c] at ho
      simp only [Bool.and_eq_true, inB_iff] at ho
      obtain ⟨h1, h2, h3⟩ := ho
      split at h3
      · rename_i s hs
        have hss := hE.os s (List.mem_of_getElem? hs)
        rw [inB_iff, IntKind.wrap_i64] at h3
        unfold sm; omega
      · cases h3
    · rw [shape5 c] at ha
      simp only [alikeB, Bool.and_eq_true, beq_iff_eq] at ha
      unfold okI at ho
      rw [if_neg (by omega), if_neg (by omega), if_neg (by omega), if_neg (by omega), if_pos c] at ho
      simp only [Bool.and_eq_true, inB_iff, offB, powB_iff, decide_eq_true_eq] at ho
      unfold sm; omega
    · rw [shape6 c] at ha
      simp only [alikeB, Bool.and_eq_true, beq_iff_eq] at ha
      unfold okI at ho
      rw [if_neg (by omega), if_neg (by omega), if_neg (by omega), if_neg (by omega), if_neg (by omega), if_pos c] at ho
      simp only [Bool.and_eq_true, inB_iff, offB, powB_iff, decide_eq_true_eq] at ho
      unfold sm; omega
    · rw [shape7 c] at ha
      simp only [alikeB, Bool.and_eq_true, beq_iff_eq] at ha
      unfold okI at ho
      rw [if_neg (by omega), if_neg (by omega), if_neg (by omega), if_neg (by omega), if_neg (by omega), if_neg (by omega), if_pos c] at ho
      simp only [Bool.and_eq_true, powB_iff, decide_eq_true_eq] at ho
      obtain ⟨-, -, h1, h2, h3, -⟩ := ho
      unfold sm; omega
    · rw [shape8 c] at ha
      simp only [alikeB, Bool.and_eq_true, beq_iff_eq] at ha
      unfold okI at ho
      rw [if_neg (by omega), if_neg (by omega), if_neg (by omega), if_neg (by omega), if_neg (by omega), if_neg (by omega), if_neg (by omega), if_pos c] at ho
      simp only [Bool.and_eq_true, inB_iff] at ho
      obtain ⟨h1, h2⟩ := ho
      split at h2
      · rename_i g hg
        unfold callB at h2
        simp only [Bool.and_eq_true, Bool.not_eq_true', Bool.or_eq_false_iff, Bool.and_eq_false_iff, bne_eq_false_iff_eq, Bool.not_eq_false', inB_iff] at h2
        obtain ⟨⟨h3, -⟩, -⟩ := h2
        have hd : x.d = -1 ∨ (0 ≤ x.d ∧ x.d < f.te) := by
          rcases h3 with h3 | h3
          · exact .inl h3
          · exact .inr h3.1
        unfold sm; omega
      · cases h2
    · rw [shape9 c] at ha
      simp only [alikeB, Bool.and_eq_true, beq_iff_eq] at ha
      unfold sm; omega
    · rw [shape10 c] at ha
      simp only [alikeB, Bool.and_eq_true, beq_iff_eq] at ha
      unfold okI at ho
      simp only [c] at ho
      have ho' : inB x.n f.code.length = true := ho
      rw [inB_iff] at ho'
      unfold sm; omega
    · rw [shape11 c] at ha
      simp only [alikeB, Bool.and_eq_true, beq_iff_eq] at ha
      unfold okI at ho
      simp only [c] at ho
      have ho' : (inB x.n f.code.length && argB f.te x.a) = true := ho
      rw [Bool.and_eq_true, inB_iff] at ho'
      unfold sm; omega
    · rw [shape12 c] at ha
      simp only [alikeB, Bool.and_eq_true, beq_iff_eq] at ha
      unfold sm; omega
    · rw [shape13 c] at ha
      simp only [alikeB, Bool.and_eq_true, beq_iff_eq] at ha
      unfold okI at ho
      simp only [c] at ho
      have ho' : inB x.d f.te = true := ho
      rw [inB_iff] at ho'
      unfold sm; omega
    · rw [shape14 c] at ha
      simp only [alikeB, Bool.and_eq_true, beq_iff_eq] at ha
      unfold sm; omega
  obtain ⟨⟨k1, k2⟩, k3, k4, k5, k6⟩ := key
  exact ⟨hP, k6, ⟨k1, k2, k3, k4, k5, hoka, hokb, hokr⟩, ha, hargs⟩
theorem sm_pow {n : Int} (h : powB n = true) : sm n := by rw [powB_iff] at h; unfold sm; omega
theorem rels_sm {p : Pr} {o : Ob} (hol : p.obs.length ≤ 256) (hs : ∀ q ∈ p.obs, 1 ≤ q.size ∧ q.size ≤ 16384) (ho : 1 ≤ o.size ∧ o.size ≤ 16384) : ∀ {fr : Int} {l : List Rel}, 0 ≤ fr → relsB ⟨p, fn0⟩ o fr l = true → ∀ r ∈ l, sm r.off ∧ sm r.gl ∧ sm r.add
  | _, [], _, _, r, hr => by cases hr
  | fr, a :: t, h0, h, r, hr => by
    have h' : relB ⟨p, fn0⟩ o fr a = true ∧ relsB ⟨p, fn0⟩ o (a.off + 4) t = true := by
      have : (relB ⟨p, fn0⟩ o fr a && relsB ⟨p, fn0⟩ o (a.off + 4) t) = true := h
      simpa using this
    have ha := h'.1
    unfold relB at ha
    simp only [Bool.and_eq_true, Bool.not_eq_true', decide_eq_false_iff_not, inB_iff] at ha
    obtain ⟨-, h1, -, h2, h3, h4, h5, -⟩ := ha
    rw [IntKind.wrap_i64] at h2
    rcases List.mem_cons.1 hr with rfl | hr
    · split at h5
      · rename_i q hq
        have hqs := hs q (List.mem_of_getElem? hq)
        simp only [Bool.not_eq_true', decide_eq_false_iff_not] at h5
        unfold sm; omega
      · cases h5
    · exact rels_sm hol hs ho (by omega) h'.2 r hr
/-- What Check lets through is read again, line by line. -/
theorem check_read {H : Nat → Option Obj} {p : Pr} (hp : PrIn H p) (h : checkB p = true) : okR (prL p) pr0 ∧ ∀ o ∈ p.obs, (o.bytes.length : Int) = o.size := by
  have hPP := check_PP h
  unfold checkB at h
  simp only [Bool.and_eq_true, Bool.not_eq_true', decide_eq_false_iff_not, inB_iff] at h
  obtain ⟨h1, -, h3, hm, -, h6, h7⟩ := h
  have hf := fns_all h7
  have hob : ∀ o ∈ p.obs, tagB o.nm = true ∧ (1 ≤ o.size ∧ o.size ≤ 16384) ∧ powB o.align = true ∧ (o.bytes.length : Int) = o.size ∧ relsB ⟨p, fn0⟩ o 0 o.rels = true := fun o ho => by
    have := List.all_eq_true.1 h6 o ho
    unfold objB at this
    simp only [Bool.and_eq_true, Bool.not_eq_true', decide_eq_false_iff_not, beq_iff_eq] at this
    obtain ⟨g1, g2, g3, g4, g5, g6⟩ := this
    exact ⟨g1, ⟨by omega, by omega⟩, g4, g5, g6⟩
  have hos : ∀ o ∈ p.obs, 1 ≤ o.size ∧ o.size ≤ 16384 := fun o ho => (hob o ho).2.1
  refine ⟨okR_all p (fun o ho => ?_) (fun f hm => ?_) hPP.olen hPP.flen (by unfold sm; omega), fun o ho => (hob o ho).2.2.2.1⟩
  · obtain ⟨g1, g2, g3, g4, g5⟩ := hob o ho
    exact ⟨okB_tag g1, by omega, g2.2, sm_pow g3, g4, (hp.ob o ho).bs, (hPP.ob o ho).2.2, rels_sm hPP.olen hos g2 (Int.le_refl 0) g5⟩
  · have := hf f hm
    unfold funcB at this
    simp only [Bool.and_eq_true, Bool.not_eq_true', decide_eq_false_iff_not] at this
    obtain ⟨g1, g2, g3, g4, g5, g6, g7, g8, g9, -, g11⟩ := this
    have hsz : ∀ s ∈ f.slots, (1 ≤ s.size ∧ s.size ≤ 16384) ∧ powB s.align = true := fun s hs => by
      have := List.all_eq_true.1 g9 s hs
      unfold slotB at this
      simp only [Bool.and_eq_true, Bool.not_eq_true', decide_eq_false_iff_not] at this
      exact ⟨⟨by omega, by omega⟩, this.2.2⟩
    have hE : Env p f := ⟨hPP.olen, hPP.flen, hos, by omega, (hPP.fn f hm).2.1, fun s hs => (hsz s hs).1, (hPP.fn f hm).2.2.1⟩
    exact ⟨okB_tag g1, by unfold sm; omega, by unfold sm; omega, (hPP.fn f hm).2.1, fun s hs => ⟨by have := (hsz s hs).1; unfold sm; omega, sm_pow (hsz s hs).2⟩, (hPP.fn f hm).2.2.1,
      fun x hx => gi_of (List.all_eq_true.1 g11 x hx) ((hPP.fn f hm).2.2.2 x hx) ((hp.fn f hm).code.all x hx) hE⟩
end Go.Proofs.YtpohhfggmaihpaaGreatDoor

/- Rounds that read an object, a function. -/
namespace Go.Proofs.YtpohhfggmaihpaaGreatDoor
open Go.Wk
set_option linter.unusedVariables false
set_option linter.unusedSimpArgs false
attribute [local irreducible] G GC GQ GA GS Exit.then Exit.inBlock

set_option maxHeartbeats 16000000 in
theorem round_fu0 (nm : ByteArray) (pa te : Int) (l : Nat) (r : Obj) (b2 : Nat) (w : World) (A : HL) (pr : Pr) (Ao Af Bb Br Bs Bc E : HL) (Q : Post) (B : Bd pr Ao Af Bb Br Bs Bc E) (hm : M0 (Oldh (XR l w A))) (hpa : sm pa) (hte : sm te) (hZ : Sml pr) (hok : okW (Ln.words (Ln.fu nm pa te false))) (hlen : (Lib.join (Ln.words (Ln.fu nm pa te false)) [32]).length ≤ 1000000000) (kk : Left (Ln.fu nm pa te false) l r b2 w A pr Q) : GC (XR l w A) bodyC Q [(2, .pointer (some ⟨b2, 0, none⟩)), (4, .string (mkB (lnB ((Ln.fu nm pa te false).words))))] (FF l r b2 pr Ao Af Bb Br Bs Bc E) := by
  refine gc_block ?_
  refine gc_seq ?_
  repeat' (first | refine g_pv rfl rfl ?_ | refine gc_region ?_)
  refine g_call rfl (Cl.of Tryz.func68 rfl rfl) rfl rfl (fun w' hE => trimS_sp (k_func :: bytesL nm :: Lib.itoa pa :: [Lib.itoa te]) w' (Nat.le_trans hlen (by decide))) rfl (fun _ _ => ?_)
  refine g_call rfl (Cl.of Tryz.func67 rfl rfl) rfl rfl (fun w' hE => splitS_sp (k_func) (bytesL nm :: Lib.itoa pa :: [Lib.itoa te]) w' hok (hm.le (old_le hE)) hlen) rfl (fun g _ => ?_)
  repeat' (fail)
  refine g_p (p_build rfl rfl rfl rfl) rfl ?_
  repeat' (first | refine g_pv rfl rfl ?_ | refine g_nil ?_ | refine gq_then ?_ | refine g_box rfl rfl (fun _ => ?_))
  rename_i b5
  have hR0 : RD b5 (k_func :: bytesL nm :: Lib.itoa pa :: [Lib.itoa te]) _ := RD.mk0 b5 g (k_func :: bytesL nm :: Lib.itoa pa :: [Lib.itoa te]) _ rfl
  refine gc_heap (R' := [[(b5, .cells ⟨[.slice (some ⟨g, 0, none⟩) _ _]⟩ 127 (0, 0))], [(g, .cells ⟨(k_func :: bytesL nm :: Lib.itoa pa :: [Lib.itoa te]).flatMap strW⟩ 9 (0, 0))]] ++ (FF l r b2 pr Ao Af Bb Br Bs Bc E)) (fun w H => H) ?_
  generalize [[(b5, Obj.cells ⟨[.slice (some ⟨g, 0, none⟩) _ _]⟩ 127 (0, 0))], [(g, Obj.cells ⟨(k_func :: bytesL nm :: Lib.itoa pa :: [Lib.itoa te]).flatMap strW⟩ 9 (0, 0))]] = R0 at hR0 ⊢
  refine gc_seq ?_
  refine gc_seq ?_
  repeat' (first | refine g_pv rfl rfl ?_ | refine gc_region ?_)
  refine g_call1 (A := R0) (F := FF l r b2 pr Ao Af Bb Br Bs Bc E) rfl rfl (Cl.of Tryz.func69 rfl rfl) rfl rfl (fun w' hE' => wnext_sp b5 _ _ R0 w' hR0 (hp_own hE')) rfl (fun R1 hR1 => ?_)
  refine g_heap (R' := (FF l r b2 pr Ao Af Bb Br Bs Bc E) ++ R1) (fun w H => hp_permL H List.perm_append_comm) ?_
  repeat' (first | refine g_pv rfl rfl ?_ | refine g_nil ?_ | refine gq_then ?_)
  refine gc_seq ?_
  repeat' (first | refine g_pv rfl rfl ?_ | refine g_nil ?_ | refine gq_then ?_ | refine gc_region ?_ | refine gc_block ?_)
  repeat' (first | refine gc_seq ?_ | refine gc_region ?_)
  refine g_p (p_eqT rfl rfl rfl) rfl ?_
  refine g_eq 64 (u' := .bool false) rfl (congrArg Value.bool ((eqT_mk (k_func) k_object).trans (by decide))) ?_
  repeat' (first | refine g_pv rfl rfl ?_ | refine g_nil ?_ | refine gq_then ?_ | refine gc_seq ?_ | refine gc_region ?_ | refine gc_cond_f rfl ?_)
  refine g_p (p_eqT rfl rfl rfl) rfl ?_
  refine g_eq 93 (u' := .bool false) rfl (congrArg Value.bool ((eqT_mk (k_func) k_data).trans (by decide))) ?_
  repeat' (first | refine g_pv rfl rfl ?_ | refine g_nil ?_ | refine gq_then ?_ | refine gc_seq ?_ | refine gc_region ?_ | refine gc_cond_f rfl ?_)
  refine g_p (p_eqT rfl rfl rfl) rfl ?_
  refine g_eq 113 (u' := .bool false) rfl (congrArg Value.bool ((eqT_mk (k_func) k_reloc).trans (by decide))) ?_
  repeat' (first | refine g_pv rfl rfl ?_ | refine g_nil ?_ | refine gq_then ?_ | refine gc_seq ?_ | refine gc_region ?_ | refine gc_cond_f rfl ?_)
  refine g_p (p_eqT rfl rfl rfl) rfl ?_
  refine g_eq 144 (u' := .bool true) rfl (congrArg Value.bool ((eqT_mk (k_func) k_func).trans (by decide))) ?_
  repeat' (first | refine g_pv rfl rfl ?_ | refine g_nil ?_ | refine gq_then ?_ | refine gc_seq ?_ | refine gc_region ?_ | refine gc_cond_t rfl ?_)
  refine g_heap (R' := R1 ++ FF l r b2 pr Ao Af Bb Br Bs Bc E) (fun w H => hp_permL H List.perm_append_comm) ?_
  refine g_call1 (A := R1) (F := FF l r b2 pr Ao Af Bb Br Bs Bc E) rfl rfl (Cl.of Tryz.func69 rfl rfl) rfl rfl (fun w' hE' => wnext_sp b5 _ _ R1 w' hR1 (hp_own hE')) rfl (fun R2 hR2 => ?_)
  refine g_heap (R' := FF l r b2 pr Ao Af Bb Br Bs Bc E ++ R2) (fun w H => hp_permL H List.perm_append_comm) ?_
  repeat' (refine g_pv rfl rfl ?_)
  refine g_heap (R' := R2 ++ FF l r b2 pr Ao Af Bb Br Bs Bc E) (fun w H => hp_permL H List.perm_append_comm) ?_
  refine g_call1 (A := R2) (F := FF l r b2 pr Ao Af Bb Br Bs Bc E) rfl rfl (Cl.of Tryz.func70 rfl rfl) rfl rfl (fun w' hE' => num_sp b5 _ _ R2 w' hpa hR2 (hp_own hE')) rfl (fun R3 hR3 => ?_)
  refine g_heap (R' := FF l r b2 pr Ao Af Bb Br Bs Bc E ++ R3) (fun w H => hp_permL H List.perm_append_comm) ?_
  repeat' (refine g_pv rfl rfl ?_)
  refine g_heap (R' := R3 ++ FF l r b2 pr Ao Af Bb Br Bs Bc E) (fun w H => hp_permL H List.perm_append_comm) ?_
  refine g_call1 (A := R3) (F := FF l r b2 pr Ao Af Bb Br Bs Bc E) rfl rfl (Cl.of Tryz.func70 rfl rfl) rfl rfl (fun w' hE' => num_sp b5 _ _ R3 w' hte hR3 (hp_own hE')) rfl (fun R4 hR4 => ?_)
  refine g_heap (R' := FF l r b2 pr Ao Af Bb Br Bs Bc E ++ R4) (fun w H => hp_permL H List.perm_append_comm) ?_
  repeat' (fail)
  refine g_p (p_build rfl rfl rfl rfl) rfl ?_
  repeat' (first | refine g_pv rfl rfl ?_ | refine g_nil ?_ | refine gq_then ?_ | refine gc_seq ?_ | refine gc_region ?_ | refine g_alloc rfl rfl (fun _ => ?_) | refine g_st 0 rfl rfl rfl rfl rfl rfl rfl ?_)
  rename_i b9
  refine g_heap (R' := R4 ++ ([(b9, .cells ⟨[.string nm, .int .i64 pa, .int .i64 te, .bool false, .slice none 0 0, .slice none 0 0]⟩ 32 (0, 0))] :: FF l r b2 pr Ao Af Bb Br Bs Bc E)) (fun w H => hp_permL H List.perm_append_comm) ?_
  refine g_call1 (A := R4) (F := [(b9, .cells ⟨[.string nm, .int .i64 pa, .int .i64 te, .bool false, .slice none 0 0, .slice none 0 0]⟩ 32 (0, 0))] :: FF l r b2 pr Ao Af Bb Br Bs Bc E) rfl rfl (Cl.of Tryz.func73 rfl rfl) rfl rfl (fun w' hE' => maybe0_sp b5 k_gives R4 w' hR4 (hp_own hE')) rfl (fun R5 hR5 => ?_)
  refine g_heap (R' := ([(b9, .cells ⟨[.string nm, .int .i64 pa, .int .i64 te, .bool false, .slice none 0 0, .slice none 0 0]⟩ 32 (0, 0))] :: FF l r b2 pr Ao Af Bb Br Bs Bc E) ++ R5) (fun w H => hp_permL H List.perm_append_comm) ?_
  repeat' (first | refine g_pv rfl rfl ?_ | refine g_ld 0 rfl rfl rfl rfl rfl rfl ?_ | refine g_ld 2 rfl rfl rfl rfl rfl rfl ?_ | refine g_nil ?_ | refine gq_then ?_ | refine gc_region ?_ | refine g_st 0 rfl rfl rfl rfl rfl rfl rfl ?_)
  first | refine g_heap (R' := ([(b9, .cells ⟨[.string nm, .int .i64 pa, .int .i64 te, .bool false, .slice none 0 0, .slice none 0 0]⟩ 32 (0, 0))] :: FF l r b2 pr Ao Af Bb Br Bs Bc E) ++ R5) (fun w H => H) ?_ | refine gc_heap (R' := ([(b9, .cells ⟨[.string nm, .int .i64 pa, .int .i64 te, .bool false, .slice none 0 0, .slice none 0 0]⟩ 32 (0, 0))] :: FF l r b2 pr Ao Af Bb Br Bs Bc E) ++ R5) (fun w H => H) ?_
  repeat' (fail)
  refine g_litL rfl rfl rfl rfl rfl rfl rfl rfl rfl rfl (fun g5 => ?_)
  refine g_appL 5 (f := Fn.cells) (m := [⟨nm, pa, te, false, [], none, 0, [], none, 0⟩]) rfl rfl rfl rfl rfl rfl rfl B.f (fun _ => rfl) (fun w' H => one_rd (hp_in H 0 rfl g5 _ List.mem_cons_self) rfl) (fun _ => rfl) (by unfold maxLen; have := hZ.2.1; simp only [List.length_singleton]; omega) (Nat.le_trans (Nat.mul_le_mul_right _ (Nat.add_le_add_right hZ.2.1 1)) (by decide)) rfl (fun v2 A2 ho2 => ?_)
  obtain ⟨ad2, c2, rfl, -⟩ := Own.shape ho2
  repeat' (first | refine g_pv rfl rfl ?_ | refine g_nil ?_ | refine gq_then ?_ | refine gc_region ?_ | refine gq_block ?_ | refine g_st 3 rfl rfl rfl rfl rfl rfl rfl ?_)
  have hRz := hR5
  obtain ⟨ad9, c9, g9, cs9, rfl, -, -⟩ := hRz
  repeat' (fail)
  refine g_ld 11 rfl rfl rfl rfl rfl rfl ?_
  repeat' (refine g_pv rfl rfl ?_)
  refine g_call rfl (Cl.of Tryz.func71 rfl rfl) rfl rfl (fun w' hE => must_sp w') rfl (fun _ _ => ?_)
  repeat' (first | refine g_nil ?_ | refine gq_block ?_)
  exact gq_sub (L' := []) trivial (gq_hp (R' := FF l r b2 { pr with fns := pr.fns ++ [⟨nm, pa, te, false, [], none, 0, [], none, 0⟩], fA := ad2, fC := c2 } Ao A2 Bb Br [] [] (Bs ++ (Bc ++ E))) (fun w' H => ff_fu (hp_tail (hp_tail (hp_fst (S := [[(b5, _)], [(g9, _)]]) H)))) (kk { pr with fns := pr.fns ++ [⟨nm, pa, te, false, [], none, 0, [], none, 0⟩], fA := ad2, fC := c2 } Ao A2 Bb Br [] [] (Bs ++ (Bc ++ E)) (B.addF ho2 ⟨rfl, rfl, rfl, rfl, rfl, rfl⟩) (by simp [Pr.er, Ln.app, Fn.er])))
set_option maxHeartbeats 16000000 in
theorem round_fu1 (nm : ByteArray) (pa te : Int) (l : Nat) (r : Obj) (b2 : Nat) (w : World) (A : HL) (pr : Pr) (Ao Af Bb Br Bs Bc E : HL) (Q : Post) (B : Bd pr Ao Af Bb Br Bs Bc E) (hm : M0 (Oldh (XR l w A))) (hpa : sm pa) (hte : sm te) (hZ : Sml pr) (hok : okW (Ln.words (Ln.fu nm pa te true))) (hlen : (Lib.join (Ln.words (Ln.fu nm pa te true)) [32]).length ≤ 1000000000) (kk : Left (Ln.fu nm pa te true) l r b2 w A pr Q) : GC (XR l w A) bodyC Q [(2, .pointer (some ⟨b2, 0, none⟩)), (4, .string (mkB (lnB ((Ln.fu nm pa te true).words))))] (FF l r b2 pr Ao Af Bb Br Bs Bc E) := by
  refine gc_block ?_
  refine gc_seq ?_
  repeat' (first | refine g_pv rfl rfl ?_ | refine gc_region ?_)
  refine g_call rfl (Cl.of Tryz.func68 rfl rfl) rfl rfl (fun w' hE => trimS_sp (k_func :: bytesL nm :: Lib.itoa pa :: [Lib.itoa te, k_gives]) w' (Nat.le_trans hlen (by decide))) rfl (fun _ _ => ?_)
  refine g_call rfl (Cl.of Tryz.func67 rfl rfl) rfl rfl (fun w' hE => splitS_sp (k_func) (bytesL nm :: Lib.itoa pa :: [Lib.itoa te, k_gives]) w' hok (hm.le (old_le hE)) hlen) rfl (fun g _ => ?_)
  repeat' (fail)
  refine g_p (p_build rfl rfl rfl rfl) rfl ?_
  repeat' (first | refine g_pv rfl rfl ?_ | refine g_nil ?_ | refine gq_then ?_ | refine g_box rfl rfl (fun _ => ?_))
  rename_i b5
  have hR0 : RD b5 (k_func :: bytesL nm :: Lib.itoa pa :: [Lib.itoa te, k_gives]) _ := RD.mk0 b5 g (k_func :: bytesL nm :: Lib.itoa pa :: [Lib.itoa te, k_gives]) _ rfl
  refine gc_heap (R' := [[(b5, .cells ⟨[.slice (some ⟨g, 0, none⟩) _ _]⟩ 127 (0, 0))], [(g, .cells ⟨(k_func :: bytesL nm :: Lib.itoa pa :: [Lib.itoa te, k_gives]).flatMap strW⟩ 9 (0, 0))]] ++ (FF l r b2 pr Ao Af Bb Br Bs Bc E)) (fun w H => H) ?_
  generalize [[(b5, Obj.cells ⟨[.slice (some ⟨g, 0, none⟩) _ _]⟩ 127 (0, 0))], [(g, Obj.cells ⟨(k_func :: bytesL nm :: Lib.itoa pa :: [Lib.itoa te, k_gives]).flatMap strW⟩ 9 (0, 0))]] = R0 at hR0 ⊢
  refine gc_seq ?_
  refine gc_seq ?_
  repeat' (first | refine g_pv rfl rfl ?_ | refine gc_region ?_)
  refine g_call1 (A := R0) (F := FF l r b2 pr Ao Af Bb Br Bs Bc E) rfl rfl (Cl.of Tryz.func69 rfl rfl) rfl rfl (fun w' hE' => wnext_sp b5 _ _ R0 w' hR0 (hp_own hE')) rfl (fun R1 hR1 => ?_)
  refine g_heap (R' := (FF l r b2 pr Ao Af Bb Br Bs Bc E) ++ R1) (fun w H => hp_permL H List.perm_append_comm) ?_
  repeat' (first | refine g_pv rfl rfl ?_ | refine g_nil ?_ | refine gq_then ?_)
  refine gc_seq ?_
  repeat' (first | refine g_pv rfl rfl ?_ | refine g_nil ?_ | refine gq_then ?_ | refine gc_region ?_ | refine gc_block ?_)
  repeat' (first | refine gc_seq ?_ | refine gc_region ?_)
  refine g_p (p_eqT rfl rfl rfl) rfl ?_
  refine g_eq 64 (u' := .bool false) rfl (congrArg Value.bool ((eqT_mk (k_func) k_object).trans (by decide))) ?_
  repeat' (first | refine g_pv rfl rfl ?_ | refine g_nil ?_ | refine gq_then ?_ | refine gc_seq ?_ | refine gc_region ?_ | refine gc_cond_f rfl ?_)
  refine g_p (p_eqT rfl rfl rfl) rfl ?_
  refine g_eq 93 (u' := .bool false) rfl (congrArg Value.bool ((eqT_mk (k_func) k_data).trans (by decide))) ?_
  repeat' (first | refine g_pv rfl rfl ?_ | refine g_nil ?_ | refine gq_then ?_ | refine gc_seq ?_ | refine gc_region ?_ | refine gc_cond_f rfl ?_)
  refine g_p (p_eqT rfl rfl rfl) rfl ?_
  refine g_eq 113 (u' := .bool false) rfl (congrArg Value.bool ((eqT_mk (k_func) k_reloc).trans (by decide))) ?_
  repeat' (first | refine g_pv rfl rfl ?_ | refine g_nil ?_ | refine gq_then ?_ | refine gc_seq ?_ | refine gc_region ?_ | refine gc_cond_f rfl ?_)
  refine g_p (p_eqT rfl rfl rfl) rfl ?_
  refine g_eq 144 (u' := .bool true) rfl (congrArg Value.bool ((eqT_mk (k_func) k_func).trans (by decide))) ?_
  repeat' (first | refine g_pv rfl rfl ?_ | refine g_nil ?_ | refine gq_then ?_ | refine gc_seq ?_ | refine gc_region ?_ | refine gc_cond_t rfl ?_)
  refine g_heap (R' := R1 ++ FF l r b2 pr Ao Af Bb Br Bs Bc E) (fun w H => hp_permL H List.perm_append_comm) ?_
  refine g_call1 (A := R1) (F := FF l r b2 pr Ao Af Bb Br Bs Bc E) rfl rfl (Cl.of Tryz.func69 rfl rfl) rfl rfl (fun w' hE' => wnext_sp b5 _ _ R1 w' hR1 (hp_own hE')) rfl (fun R2 hR2 => ?_)
  refine g_heap (R' := FF l r b2 pr Ao Af Bb Br Bs Bc E ++ R2) (fun w H => hp_permL H List.perm_append_comm) ?_
  repeat' (refine g_pv rfl rfl ?_)
  refine g_heap (R' := R2 ++ FF l r b2 pr Ao Af Bb Br Bs Bc E) (fun w H => hp_permL H List.perm_append_comm) ?_
  refine g_call1 (A := R2) (F := FF l r b2 pr Ao Af Bb Br Bs Bc E) rfl rfl (Cl.of Tryz.func70 rfl rfl) rfl rfl (fun w' hE' => num_sp b5 _ _ R2 w' hpa hR2 (hp_own hE')) rfl (fun R3 hR3 => ?_)
  refine g_heap (R' := FF l r b2 pr Ao Af Bb Br Bs Bc E ++ R3) (fun w H => hp_permL H List.perm_append_comm) ?_
  repeat' (refine g_pv rfl rfl ?_)
  refine g_heap (R' := R3 ++ FF l r b2 pr Ao Af Bb Br Bs Bc E) (fun w H => hp_permL H List.perm_append_comm) ?_
  refine g_call1 (A := R3) (F := FF l r b2 pr Ao Af Bb Br Bs Bc E) rfl rfl (Cl.of Tryz.func70 rfl rfl) rfl rfl (fun w' hE' => num_sp b5 _ _ R3 w' hte hR3 (hp_own hE')) rfl (fun R4 hR4 => ?_)
  refine g_heap (R' := FF l r b2 pr Ao Af Bb Br Bs Bc E ++ R4) (fun w H => hp_permL H List.perm_append_comm) ?_
  repeat' (fail)
  refine g_p (p_build rfl rfl rfl rfl) rfl ?_
  repeat' (first | refine g_pv rfl rfl ?_ | refine g_nil ?_ | refine gq_then ?_ | refine gc_seq ?_ | refine gc_region ?_ | refine g_alloc rfl rfl (fun _ => ?_) | refine g_st 0 rfl rfl rfl rfl rfl rfl rfl ?_)
  rename_i b9
  refine g_heap (R' := R4 ++ ([(b9, .cells ⟨[.string nm, .int .i64 pa, .int .i64 te, .bool false, .slice none 0 0, .slice none 0 0]⟩ 32 (0, 0))] :: FF l r b2 pr Ao Af Bb Br Bs Bc E)) (fun w H => hp_permL H List.perm_append_comm) ?_
  refine g_call1 (A := R4) (F := [(b9, .cells ⟨[.string nm, .int .i64 pa, .int .i64 te, .bool false, .slice none 0 0, .slice none 0 0]⟩ 32 (0, 0))] :: FF l r b2 pr Ao Af Bb Br Bs Bc E) rfl rfl (Cl.of Tryz.func73 rfl rfl) rfl rfl (fun w' hE' => maybe1_sp b5 k_gives R4 w' hR4 (hp_own hE')) rfl (fun R5 hR5 => ?_)
  refine g_heap (R' := ([(b9, .cells ⟨[.string nm, .int .i64 pa, .int .i64 te, .bool false, .slice none 0 0, .slice none 0 0]⟩ 32 (0, 0))] :: FF l r b2 pr Ao Af Bb Br Bs Bc E) ++ R5) (fun w H => hp_permL H List.perm_append_comm) ?_
  repeat' (first | refine g_pv rfl rfl ?_ | refine g_ld 0 rfl rfl rfl rfl rfl rfl ?_ | refine g_ld 2 rfl rfl rfl rfl rfl rfl ?_ | refine g_nil ?_ | refine gq_then ?_ | refine gc_region ?_ | refine g_st 0 rfl rfl rfl rfl rfl rfl rfl ?_)
  first | refine g_heap (R' := ([(b9, .cells ⟨[.string nm, .int .i64 pa, .int .i64 te, .bool true, .slice none 0 0, .slice none 0 0]⟩ 32 (0, 0))] :: FF l r b2 pr Ao Af Bb Br Bs Bc E) ++ R5) (fun w H => H) ?_ | refine gc_heap (R' := ([(b9, .cells ⟨[.string nm, .int .i64 pa, .int .i64 te, .bool true, .slice none 0 0, .slice none 0 0]⟩ 32 (0, 0))] :: FF l r b2 pr Ao Af Bb Br Bs Bc E) ++ R5) (fun w H => H) ?_
  repeat' (fail)
  refine g_litL rfl rfl rfl rfl rfl rfl rfl rfl rfl rfl (fun g5 => ?_)
  refine g_appL 5 (f := Fn.cells) (m := [⟨nm, pa, te, true, [], none, 0, [], none, 0⟩]) rfl rfl rfl rfl rfl rfl rfl B.f (fun _ => rfl) (fun w' H => one_rd (hp_in H 0 rfl g5 _ List.mem_cons_self) rfl) (fun _ => rfl) (by unfold maxLen; have := hZ.2.1; simp only [List.length_singleton]; omega) (Nat.le_trans (Nat.mul_le_mul_right _ (Nat.add_le_add_right hZ.2.1 1)) (by decide)) rfl (fun v2 A2 ho2 => ?_)
  obtain ⟨ad2, c2, rfl, -⟩ := Own.shape ho2
  repeat' (first | refine g_pv rfl rfl ?_ | refine g_nil ?_ | refine gq_then ?_ | refine gc_region ?_ | refine gq_block ?_ | refine g_st 3 rfl rfl rfl rfl rfl rfl rfl ?_)
  have hRz := hR5
  obtain ⟨ad9, c9, g9, cs9, rfl, -, -⟩ := hRz
  repeat' (fail)
  refine g_ld 11 rfl rfl rfl rfl rfl rfl ?_
  repeat' (refine g_pv rfl rfl ?_)
  refine g_call rfl (Cl.of Tryz.func71 rfl rfl) rfl rfl (fun w' hE => must_sp w') rfl (fun _ _ => ?_)
  repeat' (first | refine g_nil ?_ | refine gq_block ?_)
  exact gq_sub (L' := []) trivial (gq_hp (R' := FF l r b2 { pr with fns := pr.fns ++ [⟨nm, pa, te, true, [], none, 0, [], none, 0⟩], fA := ad2, fC := c2 } Ao A2 Bb Br [] [] (Bs ++ (Bc ++ E))) (fun w' H => ff_fu (hp_tail (hp_tail (hp_fst (S := [[(b5, _)], [(g9, _)]]) H)))) (kk { pr with fns := pr.fns ++ [⟨nm, pa, te, true, [], none, 0, [], none, 0⟩], fA := ad2, fC := c2 } Ao A2 Bb Br [] [] (Bs ++ (Bc ++ E)) (B.addF ho2 ⟨rfl, rfl, rfl, rfl, rfl, rfl⟩) (by simp [Pr.er, Ln.app, Fn.er])))
set_option maxHeartbeats 16000000 in
theorem round_ob (nm : ByteArray) (n : Nat) (al : Int) (l : Nat) (r : Obj) (b2 : Nat) (w : World) (A : HL) (pr : Pr) (Ao Af Bb Br Bs Bc E : HL) (Q : Post) (B : Bd pr Ao Af Bb Br Bs Bc E) (hm : M0 (Oldh (XR l w A))) (hn : sm n) (hn' : n ≤ 16384) (hal : sm al) (hZ : Sml pr) (hok : okW (Ln.words (Ln.ob nm n al))) (hlen : (Lib.join (Ln.words (Ln.ob nm n al)) [32]).length ≤ 1000000000) (kk : Left (Ln.ob nm n al) l r b2 w A pr Q) : GC (XR l w A) bodyC Q [(2, .pointer (some ⟨b2, 0, none⟩)), (4, .string (mkB (lnB ((Ln.ob nm n al).words))))] (FF l r b2 pr Ao Af Bb Br Bs Bc E) := by
  refine gc_block ?_
  refine gc_seq ?_
  repeat' (first | refine g_pv rfl rfl ?_ | refine gc_region ?_)
  refine g_call rfl (Cl.of Tryz.func68 rfl rfl) rfl rfl (fun w' hE => trimS_sp (k_object :: bytesL nm :: Lib.itoa (n : Int) :: [Lib.itoa al]) w' (Nat.le_trans hlen (by decide))) rfl (fun _ _ => ?_)
  refine g_call rfl (Cl.of Tryz.func67 rfl rfl) rfl rfl (fun w' hE => splitS_sp (k_object) (bytesL nm :: Lib.itoa (n : Int) :: [Lib.itoa al]) w' hok (hm.le (old_le hE)) hlen) rfl (fun g _ => ?_)
  repeat' (fail)
  refine g_p (p_build rfl rfl rfl rfl) rfl ?_
  repeat' (first | refine g_pv rfl rfl ?_ | refine g_nil ?_ | refine gq_then ?_ | refine g_box rfl rfl (fun _ => ?_))
  rename_i b5
  have hR0 : RD b5 (k_object :: bytesL nm :: Lib.itoa (n : Int) :: [Lib.itoa al]) _ := RD.mk0 b5 g (k_object :: bytesL nm :: Lib.itoa (n : Int) :: [Lib.itoa al]) _ rfl
  refine gc_heap (R' := [[(b5, .cells ⟨[.slice (some ⟨g, 0, none⟩) _ _]⟩ 127 (0, 0))], [(g, .cells ⟨(k_object :: bytesL nm :: Lib.itoa (n : Int) :: [Lib.itoa al]).flatMap strW⟩ 9 (0, 0))]] ++ (FF l r b2 pr Ao Af Bb Br Bs Bc E)) (fun w H => H) ?_
  generalize [[(b5, Obj.cells ⟨[.slice (some ⟨g, 0, none⟩) _ _]⟩ 127 (0, 0))], [(g, Obj.cells ⟨(k_object :: bytesL nm :: Lib.itoa (n : Int) :: [Lib.itoa al]).flatMap strW⟩ 9 (0, 0))]] = R0 at hR0 ⊢
  refine gc_seq ?_
  refine gc_seq ?_
  repeat' (first | refine g_pv rfl rfl ?_ | refine gc_region ?_)
  refine g_call1 (A := R0) (F := FF l r b2 pr Ao Af Bb Br Bs Bc E) rfl rfl (Cl.of Tryz.func69 rfl rfl) rfl rfl (fun w' hE' => wnext_sp b5 _ _ R0 w' hR0 (hp_own hE')) rfl (fun R1 hR1 => ?_)
  refine g_heap (R' := (FF l r b2 pr Ao Af Bb Br Bs Bc E) ++ R1) (fun w H => hp_permL H List.perm_append_comm) ?_
  repeat' (first | refine g_pv rfl rfl ?_ | refine g_nil ?_ | refine gq_then ?_)
  refine gc_seq ?_
  repeat' (first | refine g_pv rfl rfl ?_ | refine g_nil ?_ | refine gq_then ?_ | refine gc_region ?_ | refine gc_block ?_)
  repeat' (first | refine gc_seq ?_ | refine gc_region ?_)
  refine g_p (p_eqT rfl rfl rfl) rfl ?_
  refine g_eq 64 (u' := .bool true) rfl (congrArg Value.bool ((eqT_mk (k_object) k_object).trans (by decide))) ?_
  repeat' (first | refine g_pv rfl rfl ?_ | refine g_nil ?_ | refine gq_then ?_ | refine gc_seq ?_ | refine gc_region ?_ | refine gc_cond_t rfl ?_)
  refine g_heap (R' := R1 ++ FF l r b2 pr Ao Af Bb Br Bs Bc E) (fun w H => hp_permL H List.perm_append_comm) ?_
  refine g_call1 (A := R1) (F := FF l r b2 pr Ao Af Bb Br Bs Bc E) rfl rfl (Cl.of Tryz.func69 rfl rfl) rfl rfl (fun w' hE' => wnext_sp b5 _ _ R1 w' hR1 (hp_own hE')) rfl (fun R2 hR2 => ?_)
  refine g_heap (R' := FF l r b2 pr Ao Af Bb Br Bs Bc E ++ R2) (fun w H => hp_permL H List.perm_append_comm) ?_
  repeat' (refine g_pv rfl rfl ?_)
  refine g_heap (R' := R2 ++ FF l r b2 pr Ao Af Bb Br Bs Bc E) (fun w H => hp_permL H List.perm_append_comm) ?_
  refine g_call1 (A := R2) (F := FF l r b2 pr Ao Af Bb Br Bs Bc E) rfl rfl (Cl.of Tryz.func70 rfl rfl) rfl rfl (fun w' hE' => num_sp b5 (n : Int) _ R2 w' hn hR2 (hp_own hE')) rfl (fun R3 hR3 => ?_)
  refine g_heap (R' := FF l r b2 pr Ao Af Bb Br Bs Bc E ++ R3) (fun w H => hp_permL H List.perm_append_comm) ?_
  repeat' (refine g_pv rfl rfl ?_)
  refine g_heap (R' := R3 ++ FF l r b2 pr Ao Af Bb Br Bs Bc E) (fun w H => hp_permL H List.perm_append_comm) ?_
  refine g_call1 (A := R3) (F := FF l r b2 pr Ao Af Bb Br Bs Bc E) rfl rfl (Cl.of Tryz.func70 rfl rfl) rfl rfl (fun w' hE' => num_sp b5 _ _ R3 w' hal hR3 (hp_own hE')) rfl (fun R4 hR4 => ?_)
  refine g_heap (R' := FF l r b2 pr Ao Af Bb Br Bs Bc E ++ R4) (fun w H => hp_permL H List.perm_append_comm) ?_
  repeat' (fail)
  refine g_p (p_build rfl rfl rfl rfl) rfl ?_
  repeat' (first | refine g_pv rfl rfl ?_ | refine g_ld 0 rfl rfl rfl rfl rfl rfl ?_ | refine g_nil ?_ | refine gq_then ?_ | refine gc_seq ?_ | refine gc_region ?_ | refine g_yes rfl rfl rfl ?_ | refine g_alloc rfl rfl (fun _ => ?_) | refine g_st 0 rfl rfl rfl rfl rfl rfl rfl ?_)
  rename_i b7
  first | refine g_heap (R' := ([(b7, .cells ⟨[.string nm, .int .i64 (n : Int), .int .i64 al, .slice none 0 0, .slice none 0 0]⟩ 66 (0, 0))] :: FF l r b2 pr Ao Af Bb Br Bs Bc E) ++ R4) (fun w H => H) ?_ | refine gc_heap (R' := ([(b7, .cells ⟨[.string nm, .int .i64 (n : Int), .int .i64 al, .slice none 0 0, .slice none 0 0]⟩ 66 (0, 0))] :: FF l r b2 pr Ao Af Bb Br Bs Bc E) ++ R4) (fun w H => H) ?_
  repeat' (fail)
  refine g_eq 74 (u' := .bool true) rfl (by simp) ?_
  repeat' (fail)
  refine g_eq 79 (u' := .bool true) rfl (by simp; omega) ?_
  refine g_call rfl (Cl.of Tryz.func71 rfl rfl) rfl rfl (fun w' hE => must_sp w') rfl (fun _ _ => ?_)
  repeat' (first | refine g_pv rfl rfl ?_ | refine g_ld 0 rfl rfl rfl rfl rfl rfl ?_ | refine g_nil ?_ | refine gq_then ?_ | refine gc_seq ?_ | refine gc_region ?_)
  refine g_make (n := n) (c := n) rfl rfl rfl rfl rfl (Nat.le_refl _) (by show 1 * _ ≤ _; omega) (by omega) rfl (fun gm => ?_)
  have hgm := own_make (e := 5) (te := ⟨.int .u8, .int .u8 0, 1, 1⟩) (f := fB) (0 : Int) rfl rfl gm n (by unfold maxLen; omega)
  repeat' (first | refine g_pv rfl rfl ?_ | refine g_ld 1 rfl rfl rfl rfl rfl rfl ?_ | refine g_ld 3 rfl rfl rfl rfl rfl rfl ?_ | refine g_nil ?_ | refine gq_then ?_ | refine gc_region ?_ | refine g_st 1 rfl rfl rfl rfl rfl rfl rfl ?_)
  first | refine g_heap (R' := [(gm, .cells ⟨rep n [.int .u8 0]⟩ 5 (0, 0))] :: ([(b7, .cells ⟨[.string nm, .int .i64 (n : Int), .int .i64 al, .slice (some ⟨gm, 0, none⟩) n n, .slice none 0 0]⟩ 66 (0, 0))] :: FF l r b2 pr Ao Af Bb Br Bs Bc E) ++ R4) (fun w H => H) ?_ | refine gc_heap (R' := [(gm, .cells ⟨rep n [.int .u8 0]⟩ 5 (0, 0))] :: ([(b7, .cells ⟨[.string nm, .int .i64 (n : Int), .int .i64 al, .slice (some ⟨gm, 0, none⟩) n n, .slice none 0 0]⟩ 66 (0, 0))] :: FF l r b2 pr Ao Af Bb Br Bs Bc E) ++ R4) (fun w H => H) ?_
  repeat' (fail)
  refine g_litL rfl rfl rfl rfl rfl rfl rfl rfl rfl rfl (fun g5 => ?_)
  refine g_appL 5 (f := Ob.cells) (m := [⟨nm, n, al, List.replicate n 0, some ⟨gm, 0, none⟩, n, [], none, 0⟩]) rfl rfl rfl rfl rfl rfl rfl B.o (fun _ => rfl) (fun w' H => one_rd (hp_in H 0 rfl g5 _ List.mem_cons_self) (by simp [Ob.cells]; rfl)) (fun _ => rfl) (by unfold maxLen; have := hZ.1; simp only [List.length_singleton]; omega) (Nat.le_trans (Nat.mul_le_mul_right _ (Nat.add_le_add_right hZ.1 1)) (by decide)) rfl (fun v2 A2 ho2 => ?_)
  obtain ⟨ad2, c2, rfl, -⟩ := Own.shape ho2
  repeat' (refine g_pv rfl rfl ?_)
  refine g_st 4 rfl rfl rfl rfl rfl rfl rfl ?_
  have hRz := hR4
  obtain ⟨ad9, c9, g9, cs9, rfl, -, -⟩ := hRz
  repeat' (first | refine g_pv rfl rfl ?_ | refine g_nil ?_ | refine gq_then ?_ | refine gc_region ?_ | refine gq_block ?_)
  refine g_ld 12 rfl rfl rfl rfl rfl rfl ?_
  repeat' (refine g_pv rfl rfl ?_)
  refine g_call rfl (Cl.of Tryz.func71 rfl rfl) rfl rfl (fun w' hE => must_sp w') rfl (fun _ _ => ?_)
  repeat' (first | refine g_nil ?_ | refine gq_block ?_)
  exact gq_sub (L' := []) trivial (gq_hp (R' := FF l r b2 { pr with obs := pr.obs ++ [⟨nm, n, al, List.replicate n 0, some ⟨gm, 0, none⟩, n, [], none, 0⟩], oA := ad2, oC := c2 } A2 Af [(gm, .cells ⟨rep n [.int .u8 0]⟩ 5 (0, 0))] [] Bs Bc (Bb ++ (Br ++ E))) (fun w' H => ff_ob (hp_tail (hp_fst (S := [[(b5, _)], [(g9, _)]]) H))) (kk { pr with obs := pr.obs ++ [⟨nm, n, al, List.replicate n 0, some ⟨gm, 0, none⟩, n, [], none, 0⟩], oA := ad2, oC := c2 } A2 Af [(gm, .cells ⟨rep n [.int .u8 0]⟩ 5 (0, 0))] [] Bs Bc (Bb ++ (Br ++ E)) (B.addO ho2 (by show OwnL 5 1 fB (.slice (some ⟨gm, 0, none⟩) (List.replicate n (0 : Int)).length n) (List.replicate n 0) _; rw [List.length_replicate]; exact hgm) ⟨rfl, rfl, rfl⟩) (by simp [Pr.er, Ln.app, Ob.er])))
end Go.Proofs.YtpohhfggmaihpaaGreatDoor
