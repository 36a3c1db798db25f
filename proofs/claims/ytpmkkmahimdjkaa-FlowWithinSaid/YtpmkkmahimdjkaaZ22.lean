/-
  The chapter's first example: by the plain laws, and walked.
  heads: what must come at any rate.
  The law FlowGraph: what flow answers is what the document answers.
  The law FlowLoops: idom, loops and depth answer as the document's.
-/
import Derived.Test.YtpmkkmahimdjkaaZ21

/- The chapter's first example: by the plain laws, and walked. -/
namespace Go.Proofs.Ytpmkkmahimdjkaa
open Go.Wk
set_option linter.unusedVariables false
set_option linter.unusedSimpArgs false
attribute [local irreducible] G GC GQ GA GS Exit.then Exit.inBlock

def sCode : List Ins := [⟨1, 0, 0, ⟨2, 3⟩, ⟨0, 0⟩, 0, 0, 0, false, [], none, 0⟩, ⟨2, 2, 0, ⟨1, 0⟩, ⟨2, 1⟩, 0, 0, 0, false, [], none, 0⟩, ⟨11, 0, -1, ⟨1, 0⟩, ⟨0, 0⟩, 1, 0, 0, false, [], none, 0⟩, ⟨9, 0, -1, ⟨1, 0⟩, ⟨0, 0⟩, 0, 0, 0, false, [], none, 0⟩]
def sF (g : Nat) : TF := ⟨⟨#[109, 97, 105, 110]⟩, 0, 1, true, none, 0, 0, some ⟨g, 0, none⟩, 4, sCode⟩
def zF : TF := ⟨⟨#[]⟩, 0, 0, false, none, 0, 0, none, 0, []⟩
theorem sF_right (g : Nat) : (sF g).right = true := rfl
theorem zF_right : zF.right = false := rfl
theorem s_nxt0 : nxt sCode 0 = [1] := by decide
theorem s_nxt1 : nxt sCode 1 = [2] := by decide
theorem s_nxt2 : nxt sCode 2 = [1, 3] := by decide
theorem s_nxt3 : nxt sCode 3 = [] := by decide
theorem s_edge {u v : Nat} (h : (v : Int) ∈ nxt sCode u) : (u = 0 ∧ v = 1) ∨ (u = 1 ∧ v = 2) ∨ (u = 2 ∧ (v = 1 ∨ v = 3)) := by
  have hu : u < 4 := nxt_lt h
  rcases (by omega : u = 0 ∨ u = 1 ∨ u = 2 ∨ u = 3) with rfl | rfl | rfl | rfl
  · rw [s_nxt0] at h; simp at h; omega
  · rw [s_nxt1] at h; simp at h; omega
  · rw [s_nxt2] at h; simp at h; omega
  · rw [s_nxt3] at h; cases h
theorem s_rch (v : Nat) : R0 (nxt sCode) v ↔ v < 4 := by
  constructor
  · intro h
    exact h.lt (n := 4) (fun k hk => by simp at hk; omega) (fun u _ => nxt_in sCode u)
  · intro h
    have h0 : R0 (nxt sCode) 0 := Rch.base (by simp)
    have h1 : R0 (nxt sCode) 1 := Rch.step h0 (by rw [s_nxt0]; simp)
    have h2 : R0 (nxt sCode) 2 := Rch.step h1 (by rw [s_nxt1]; simp)
    have h3 : R0 (nxt sCode) 3 := Rch.step h2 (by rw [s_nxt2]; simp)
    rcases (by omega : v = 0 ∨ v = 1 ∨ v = 2 ∨ v = 3) with rfl | rfl | rfl | rfl <;> assumption
theorem s_rchw (d v : Nat) : RchW (nxt sCode) d v ↔ v < d ∧ v < 4 := by
  constructor
  · intro h
    induction h with
    | base h => omega
    | step _ he hne ih => have := s_edge he; omega
  · rintro ⟨h1, h2⟩
    have h0 : 0 < d → RchW (nxt sCode) d 0 := fun h => RchW.base (by omega)
    have e1 : 1 < d → RchW (nxt sCode) d 1 := fun h => RchW.step (h0 (by omega)) (by rw [s_nxt0]; simp) (by omega)
    have e2 : 2 < d → RchW (nxt sCode) d 2 := fun h => RchW.step (e1 (by omega)) (by rw [s_nxt1]; simp) (by omega)
    have e3 : 3 < d → RchW (nxt sCode) d 3 := fun h => RchW.step (e2 (by omega)) (by rw [s_nxt2]; simp) (by omega)
    rcases (by omega : v = 0 ∨ v = 1 ∨ v = 2 ∨ v = 3) with rfl | rfl | rfl | rfl
    · exact h0 h1
    · exact e1 h1
    · exact e2 h1
    · exact e3 h1
theorem s_dm (d v : Nat) : Dm (nxt sCode) d v ↔ v < 4 ∧ d ≤ v := by
  unfold Dm; rw [s_rch, s_rchw]; omega
theorem s_num : Num (nxt sCode) (fun v => 3 - v) 4 where
  bd := fun v hv => by show 3 - v < 4; omega
  inj := fun u v hu hv h => by rw [s_rch] at hu hv; have h' : 3 - u = 3 - v := h; omega
  par := fun v hv h0 => by
    rw [s_rch] at hv
    refine ⟨v - 1, (s_rch _).2 (by omega), ?_, by show 3 - v < 3 - (v - 1); omega⟩
    rcases (by omega : v = 1 ∨ v = 2 ∨ v = 3) with rfl | rfl | rfl
    · rw [s_nxt0]; simp
    · rw [s_nxt1]; simp
    · rw [s_nxt2]; simp
theorem s_near (v : Nat) (hv : v < 4) (h0 : v ≠ 0) : Near (nxt sCode) (v - 1) v := ⟨(s_dm _ _).2 ⟨hv, by omega⟩, by omega, fun c hc hne => by
  rw [s_dm] at hc ⊢; omega⟩
theorem s_idom : IsIdom (nxt sCode) 4 [-1, 0, 1, 2] where
  len := rfl
  zero := rfl
  out := fun u hu => by
    rw [s_rch] at hu
    simp [List.getD, List.getElem?_eq_none (show [(-1 : Int), 0, 1, 2].length ≤ u by simp; omega)]
  near := fun v hv h0 => by
    rw [s_rch] at hv
    refine ⟨v - 1, ?_, s_near v hv h0⟩
    rcases (by omega : v = 1 ∨ v = 2 ∨ v = 3) with rfl | rfl | rfl <;> rfl
  num := ⟨_, 4, s_num, Nat.le_refl _⟩
theorem s_starts : IsSet [0, 1, 3] (fun u => startsBy sCode sCode.length u) := by
  refine ⟨by decide, fun v => ?_⟩
  constructor
  · intro h
    simp at h
    rcases h with rfl | rfl | rfl
    · exact ⟨0, rfl, .inl rfl⟩
    · exact ⟨1, rfl, .inr ⟨2, _, by decide, rfl, .inl ⟨by decide, rfl⟩⟩⟩
    · exact ⟨3, rfl, .inr ⟨2, _, by decide, rfl, .inr ⟨by decide, rfl, by decide⟩⟩⟩
  · rintro ⟨u, rfl, h | ⟨i, x, hi, hx, h⟩⟩
    · have : u = 0 := by omega
      subst this; simp
    · have hi4 : i < 4 := hi
      rcases (by omega : i = 0 ∨ i = 1 ∨ i = 2 ∨ i = 3) with rfl | rfl | rfl | rfl
      · cases hx; simp [startsAt] at h
      · cases hx; simp [startsAt] at h
      · cases hx
        rcases h with ⟨_, h⟩ | ⟨_, h, _⟩
        · rw [h]; simp
        · rw [h]; simp
      · cases hx
        rcases h with ⟨h, _⟩ | ⟨_, h, h2⟩
        · simp at h
        · exfalso
          have e : ((sCode.length : Nat) : Int) = 4 := rfl
          omega
theorem s_reach : IsSet [0, 1, 2, 3] (Rch (nxt sCode) [0]) := by
  refine ⟨by decide, fun v => ?_⟩
  constructor
  · intro h
    simp at h
    rcases h with rfl | rfl | rfl | rfl
    · exact ⟨0, rfl, (s_rch 0).2 (by decide)⟩
    · exact ⟨1, rfl, (s_rch 1).2 (by decide)⟩
    · exact ⟨2, rfl, (s_rch 2).2 (by decide)⟩
    · exact ⟨3, rfl, (s_rch 3).2 (by decide)⟩
  · rintro ⟨u, rfl, h⟩
    have := (s_rch u).1 h
    rcases (by omega : u = 0 ∨ u = 1 ∨ u = 2 ∨ u = 3) with rfl | rfl | rfl | rfl <;> simp
theorem s_back (a b : Nat) : BackE (nxt sCode) a b ↔ a = 2 ∧ b = 1 := by
  unfold BackE
  constructor
  · rintro ⟨_, h2, h3⟩
    have := s_edge h2
    have := (s_dm b a).1 h3
    omega
  · rintro ⟨rfl, rfl⟩
    exact ⟨(s_rch 2).2 (by decide), by rw [s_nxt2]; simp, (s_dm 1 2).2 (by decide)⟩
theorem s_in (x : Nat) : InLoop (nxt sCode) 1 x ↔ x = 1 ∨ x = 2 := by
  constructor
  · intro h
    induction h with
    | head => exact .inl rfl
    | back h => exact .inr ((s_back _ _).1 h).1
    | step _ hne he ih => have := s_edge he; omega
  · rintro (rfl | rfl)
    · exact .head
    · exact .back ((s_back 2 1).2 ⟨rfl, rfl⟩)
theorem s_loops : IsLoops (nxt sCode) [1] [[1, 2]] where
  heads := ⟨by decide, fun v => by
    constructor
    · intro h; simp at h; exact ⟨1, h, 2, (s_back 2 1).2 ⟨rfl, rfl⟩⟩
    · rintro ⟨b, rfl, a, h⟩; have := ((s_back a b).1 h).2; subst this; simp⟩
  len := rfl
  row := fun i b l h1 h2 => by
    cases i with
    | succ i => simp at h1
    | zero =>
      simp at h1 h2
      have hb : b = 1 := by omega
      subst hb; subst h2
      refine ⟨by decide, fun v => ?_⟩
      constructor
      · intro h; simp at h
        rcases h with rfl | rfl
        · exact ⟨1, rfl, (s_in 1).2 (.inl rfl)⟩
        · exact ⟨2, rfl, (s_in 2).2 (.inr rfl)⟩
      · rintro ⟨u, rfl, h⟩
        rcases (s_in u).1 h with rfl | rfl <;> simp
theorem s_rd (i : Nat) (x : Ins) (h : sCode[i]? = some x) (t : Int) : t ∈ x.reads ↔ t = 0 ∧ i ≠ 0 := by
  have hi : i < 4 := (List.getElem?_eq_some_iff.1 h).1
  rcases (by omega : i = 0 ∨ i = 1 ∨ i = 2 ∨ i = 3) with rfl | rfl | rfl | rfl <;> cases h <;> simp [Ins.reads, readsF]
theorem s_livein (t : Int) (i : Nat) : LiveIn sCode t i ↔ t = 0 ∧ 1 ≤ i ∧ i < 4 := by
  constructor
  · intro h
    induction h with
    | @read i x h1 h2 =>
      have hi : i < 4 := (List.getElem?_eq_some_iff.1 h1).1
      have := (s_rd i x h1 t).1 h2
      omega
    | @next i v x h1 h2 h3 _ ih =>
      have := s_edge h3
      obtain ⟨rfl, h4, h5⟩ := ih
      refine ⟨rfl, ?_, by omega⟩
      rcases (by omega : i = 0 ∨ 1 ≤ i) with rfl | h
      · cases h1; exact absurd rfl h2
      · exact h
  · rintro ⟨rfl, h1, h2⟩
    have hx : sCode[i]? = some (sCode[i]'h2) := List.getElem?_eq_getElem h2
    exact .read hx ((s_rd i _ hx 0).2 ⟨rfl, by omega⟩)
theorem s_liveout (t : Int) (i : Nat) : LiveOut sCode t i ↔ t = 0 ∧ i < 3 := by
  constructor
  · rintro ⟨v, h1, h2⟩
    have := s_edge h1
    have := (s_livein t v).1 h2
    omega
  · rintro ⟨rfl, h⟩
    rcases (by omega : i = 0 ∨ i = 1 ∨ i = 2) with rfl | rfl | rfl
    · exact ⟨1, by rw [s_nxt0]; simp, (s_livein 0 1).2 (by decide)⟩
    · exact ⟨2, by rw [s_nxt1]; simp, (s_livein 0 2).2 (by decide)⟩
    · exact ⟨3, by rw [s_nxt2]; simp, (s_livein 0 3).2 (by decide)⟩
theorem isset0 {S : Nat → Prop} (h : ∀ u, S u ↔ u = 0) : IsSet [0] S := ⟨by decide, fun v => by
  constructor
  · intro hv; simp at hv; exact ⟨0, hv, (h 0).2 rfl⟩
  · rintro ⟨u, rfl, hu⟩; have := (h u).1 hu; subst this; simp⟩
theorem issetN {S : Nat → Prop} (h : ∀ u, ¬ S u) : IsSet [] S := ⟨List.Pairwise.nil, fun v => ⟨fun hv => (by cases hv), fun ⟨u, _, hu⟩ => absurd hu (h u)⟩⟩
theorem s_live : IsLive sCode [[], [0], [0], [0]] [[0], [0], [0], []] where
  ln1 := rfl
  ln2 := rfl
  inn := fun i l h => by
    have hi : i < 4 := (List.getElem?_eq_some_iff.1 h).1
    rcases (by omega : i = 0 ∨ i = 1 ∨ i = 2 ∨ i = 3) with rfl | rfl | rfl | rfl <;> cases h
    · exact issetN (fun u hu => by have := (s_livein _ _).1 hu; omega)
    all_goals exact isset0 (fun u => (s_livein _ _).trans ⟨fun h => by omega, fun h => by omega⟩)
  out := fun i l h => by
    have hi : i < 4 := (List.getElem?_eq_some_iff.1 h).1
    rcases (by omega : i = 0 ∨ i = 1 ∨ i = 2 ∨ i = 3) with rfl | rfl | rfl | rfl <;> cases h
    · exact isset0 (fun u => (s_liveout _ _).trans ⟨fun h => by omega, fun h => by omega⟩)
    · exact isset0 (fun u => (s_liveout _ _).trans ⟨fun h => by omega, fun h => by omega⟩)
    · exact isset0 (fun u => (s_liveout _ _).trans ⟨fun h => by omega, fun h => by omega⟩)
    · exact issetN (fun u hu => by have := (s_liveout _ _).1 hu; omega)
theorem s_dep : depL 4 [[1, 2]] = [0, 1, 1, 0] := by decide

/-- A result that lies in a cell of one's own. -/
theorem gq_retC {X : Cx} {fn : Func} {Rp : Ending → World → Prop} {L : LT} {R : RL} (i : Nat) {e : Exit} {t : Tmp} {ty : TypeId} {ti : Ti} {b : Nat} {l cs : List Value} {te : TypeId} {fz : Nat × Nat} {A : HL} {v : Value} (he : e = .normal ∨ e = .ret) (hds : X.ds = []) (hfn : fn.results = #[.cell t ty]) (hv : lk L t = some (.pointer (some ⟨b, 0, none⟩))) (ht : tl X.s.tab ty = some ti)
    (hR : R[i]? = some ((b, .cells ⟨l⟩ te fz) :: A)) (hc : takeC l 0 ti.sz = some cs) (ha : asV ti.k cs = some v) (k : ∀ w, Hp X w R → Rp (.returned v) w) : GQ X (bodyPost X.s.P fn Rp) e L R :=
  gq_ret he hds v (fun a w hok hE => by
    obtain ⟨h1, h2⟩ := takeC_spec _ _ _ _ hc
    have hb := hp_cell hE hR
    have h3 := hok.kn _ _ hv
    have hl := run_loadAt (P := X.s.P) (w := w) (b := b) (o := 0) (X.s.ok.at ht) h1 ha (fun j u hj => by
      simp only [World.cell?, hb]
      simpa using h2 j u hj)
    simp only [Array.getD_eq_getD_getElem?] at h3
    simp only [Instr.loadAt, Instr.sureAddr, Sem.run_bind, run_pure', Result.andThen_ok] at hl
    simp [results, hfn, h3, asAddr, hl]) k

theorem sample_sp (w : World) : Sp Try.prog 38 [] w [] (fun g : Nat => (sF g).val) (fun g => [[(g, .cells ⟨sCode.flatMap Ins.cells⟩ 62 (0, 0))]]) (fun _ => True) := by
  refine enter (s := Try.sx) [] Try.func38 rfl rfl rfl (Eff.refl w) ?_
  repeat' (first | refine g_nil ?_ | refine gq_then ?_ | refine gc_seq ?_ | refine gc_region ?_ | refine g_alloc rfl rfl (fun _ => ?_))
  refine g_build rfl rfl rfl rfl rfl ?_
  repeat' (first | refine g_nil ?_ | refine gq_then ?_ | refine gc_seq ?_ | refine gc_region ?_ | refine g_alloc rfl rfl (fun _ => ?_) | refine g_st 0 rfl rfl rfl rfl rfl rfl rfl ?_)
  refine g_build rfl rfl rfl rfl rfl ?_
  refine g_build rfl rfl rfl rfl rfl ?_
  repeat' (refine g_ld 0 rfl rfl rfl rfl rfl rfl ?_)
  refine g_build rfl rfl rfl rfl rfl ?_
  refine g_build rfl rfl rfl rfl rfl ?_
  repeat' (refine g_ld 0 rfl rfl rfl rfl rfl rfl ?_)
  refine g_build rfl rfl rfl rfl rfl ?_
  repeat' (refine g_ld 0 rfl rfl rfl rfl rfl rfl ?_)
  refine g_build rfl rfl rfl rfl rfl ?_
  refine g_litL rfl rfl rfl rfl rfl rfl rfl rfl rfl rfl (fun g => ?_)
  refine g_build rfl rfl rfl rfl rfl ?_
  repeat' (first | refine g_nil ?_ | refine gq_then ?_ | refine gc_ret ?_ | refine g_st 2 rfl rfl rfl rfl rfl rfl rfl ?_)
  exact gq_retC 2 (.inr rfl) rfl rfl rfl rfl rfl rfl rfl (fun w' H => ⟨g, trivial, rfl, hp_take 0 rfl (fun H => hp_nil H) H⟩)
end Go.Proofs.Ytpmkkmahimdjkaa

/- heads: what must come at any rate. -/
namespace Go.Proofs.Ytpmkkmahimdjkaa
open Go.Wk
set_option linter.unusedVariables false
set_option linter.unusedSimpArgs false
attribute [local irreducible] G GC GQ GA GS Exit.then Exit.inBlock

theorem s_codeIn {H : Nat → Option Obj} {g : Nat} (h : H g = some (.cells ⟨sCode.flatMap Ins.cells⟩ 62 (0, 0))) : CodeIn H (some ⟨g, 0, none⟩) sCode := by
  refine ⟨?_, by decide, fun x hx => ?_⟩
  · have ho : OwnL 62 12 Ins.cells (.slice (some ⟨g, 0, none⟩) 4 4) sCode [(g, .cells ⟨sCode.flatMap Ins.cells⟩ 62 (0, 0))] := ⟨rfl, .inr ⟨g, 4, [], rfl, by simp, Nat.le_refl _, by decide, rfl⟩⟩
    obtain ⟨ad, cap, he, hr⟩ := OwnL.rd (f := Ins.cells) (fun _ => rfl) ho (H := H) (fun b o hb => by simp at hb; obtain ⟨rfl, rfl⟩ := hb; exact h)
    cases he; exact hr
  · have hargs : ∀ (x : Ins), x ∈ sCode → x.args = [] := by
      intro x hx
      simp only [sCode, List.mem_cons, List.not_mem_nil, or_false] at hx
      rcases hx with rfl | rfl | rfl | rfl <;> rfl
    have hall : ∀ x ∈ sCode, x.a.ok ∧ x.b.ok ∧ in64 x.op ∧ in64 x.d ∧ in64 x.n := by
      intro x hx
      simp only [sCode, List.mem_cons, List.not_mem_nil, or_false] at hx
      rcases hx with rfl | rfl | rfl | rfl <;> simp [Arg.ok, in64]
    have h0 := hargs x hx
    obtain ⟨h1, h2, h3, h4, h5⟩ := hall x hx
    refine ⟨by rw [h0]; exact fun i x hx => by simp at hx, by rw [h0]; decide, fun a ha => ?_, h3, h4, h5⟩
    rw [h0] at ha
    simp at ha
    rcases ha with rfl | rfl <;> assumption
theorem z_codeIn (H : Nat → Option Obj) : CodeIn H none [] := ⟨fun i x hx => by simp at hx, by decide, fun x hx => by cases hx⟩
theorem rdI_nil (H : Nat → Option Obj) (ad : Option Addr) (cap : Nat) : RdI H (.slice ad 0 cap) [] := ⟨ad, cap, rfl, fun i x hx => by simp at hx⟩
theorem rdI_lit {H : Nat → Option Obj} {g : Nat} (l : List Int) (hl : l.length ≤ 1000) (h : H g = some (.cells ⟨l.flatMap fI⟩ 3 (0, 0))) : RdI H (.slice (some ⟨g, 0, none⟩) l.length l.length) l := by
  have ho : OwnI (.slice (some ⟨g, 0, none⟩) l.length l.length) l [(g, .cells ⟨l.flatMap fI⟩ 3 (0, 0))] := ⟨by rw [flat_len (f := fI) (sz := 1) (fun _ => rfl)], .inr ⟨g, l.length, [], rfl, by simp, Nat.le_refl _, by unfold maxLen; omega, by rw [List.append_nil, flat_len (f := fI) (sz := 1) (fun _ => rfl)]⟩⟩
  exact OwnI.rd ho (fun b o hb => by simp at hb; obtain ⟨rfl, rfl⟩ := hb; exact h)
theorem rdLL_lit {H : Nat → Option Obj} {g : Nat} (vals : List Value) (ll : List (List Int)) (hl : vals.length = ll.length) (hs : vals.length ≤ 1000) (h : H g = some (.cells ⟨vals⟩ 26 (0, 0))) (hr : ∀ (i : Nat) (u : Value) (l : List Int), vals[i]? = some u → ll[i]? = some l → RdI H u l) : RdLL H (.slice (some ⟨g, 0, none⟩) ll.length ll.length) ll := by
  have hf : vals.flatMap fV = vals := (flat_one (fun v => v) vals).trans (List.map_id' vals)
  have ho : OwnL 26 1 fV (.slice (some ⟨g, 0, none⟩) vals.length vals.length) vals [(g, .cells ⟨vals⟩ 26 (0, 0))] := ⟨by rw [hf]; omega, .inr ⟨g, vals.length, [], rfl, by rw [hf, List.append_nil], Nat.le_refl _, by unfold maxLen; omega, by rw [hf, List.append_nil]; simp⟩⟩
  obtain ⟨ad, cap, he, hrd⟩ := OwnL.rd (f := fV) (fun _ => rfl) ho (H := H) (fun b o hb => by simp at hb; obtain ⟨rfl, rfl⟩ := hb; exact h)
  cases he
  exact ⟨some ⟨g, 0, none⟩, vals.length, vals, by rw [hl], hl, hrd, hr⟩
theorem ite_t {c : Bool} {P Q : Prop} (hc : c = true) (h : if c then P else Q) : P := by rw [if_pos hc] at h; exact h

set_option maxHeartbeats 64000000 in
theorem heads_sp (w : World) : Sp Try.prog 17 [] w [] (fun _ : Unit => .bool true) (fun _ => []) (fun _ => True) := by
  refine enter (s := Try.sx) [] Try.func17 rfl rfl rfl (Eff.refl w) ?_
  repeat' (first | refine g_pv rfl rfl ?_ | refine g_nil ?_ | refine gq_then ?_ | refine gc_seq ?_ | refine gc_region ?_)
  refine g_call rfl (Cl.of Try.func38 rfl rfl) rfl rfl (fun w' hE => sample_sp w') rfl (fun g _ => ?_)
  have he : errOf (sF g) = 0 := by simp [errOf, sF_right]
  have hz : errOf zF = 160 := by simp [errOf, zF_right]
  repeat' (first | refine g_ld 0 rfl rfl rfl rfl rfl rfl ?_ | refine g_nil ?_ | refine gq_then ?_ | refine gc_seq ?_ | refine gc_region ?_ | refine g_alloc rfl rfl (fun _ => ?_) | refine g_st 0 rfl rfl rfl rfl rfl rfl rfl ?_)
  refine g_call rfl (Cl.of Try.func8 rfl rfl) rfl rfl (fun w' hE => starts_sp (sF g) w' (s_codeIn (hp_in hE 1 rfl g _ List.mem_cons_self))) rfl ?_
  rintro ⟨va, Aa⟩ ⟨la, hoa, hla⟩
  obtain rfl : la = [0, 1, 3] := (ite_t (sF_right g) hla).eq s_starts (fun _ => Iff.rfl)
  rw [he]
  repeat' (first | refine g_pv rfl rfl ?_ | refine g_ld 1 rfl rfl rfl rfl rfl rfl ?_ | refine g_nil ?_ | refine gq_then ?_ | refine gc_seq ?_ | refine gc_region ?_)
  refine g_call rfl (Cl.of Try.func10 rfl rfl) rfl rfl (fun w' hE => reach_sp (sF g) w' (s_codeIn (hp_in hE 2 rfl g _ List.mem_cons_self))) rfl ?_
  rintro ⟨vb, Ab⟩ ⟨lb, hob, hlb⟩
  obtain rfl : lb = [0, 1, 2, 3] := (ite_t (sF_right g) hlb).eq s_reach (fun _ => Iff.rfl)
  rw [he]
  repeat' (first | refine g_pv rfl rfl ?_ | refine g_ld 2 rfl rfl rfl rfl rfl rfl ?_ | refine g_nil ?_ | refine gq_then ?_ | refine gc_seq ?_ | refine gc_region ?_)
  refine g_call rfl (Cl.of Try.func18 rfl rfl) rfl rfl (fun w' hE => idomT_sp (sF g) w' (s_codeIn (hp_in hE 3 rfl g _ List.mem_cons_self))) rfl ?_
  rintro ⟨vc, Ac⟩ ⟨lc, hoc, hlc⟩
  obtain rfl : lc = [-1, 0, 1, 2] := (ite_t (sF_right g) hlc).uniq s_num s_idom
  rw [he]
  repeat' (first | refine g_pv rfl rfl ?_ | refine g_ld 3 rfl rfl rfl rfl rfl rfl ?_ | refine g_nil ?_ | refine gq_then ?_ | refine gc_seq ?_ | refine gc_region ?_)
  refine g_call rfl (Cl.of Try.func20 rfl rfl) rfl rfl (fun w' hE => loopsT_sp (sF g) w' (s_codeIn (hp_in hE 4 rfl g _ List.mem_cons_self))) rfl ?_
  rintro ⟨vd, Ad, ld, vi, li, mi⟩ ⟨hod, hoi, hld⟩
  obtain ⟨rfl, rfl⟩ : ld = [1] ∧ li = [[1, 2]] := (ite_t (sF_right g) hld).uniq s_loops
  rw [he]
  repeat' (first | refine g_pv rfl rfl ?_ | refine g_nil ?_ | refine gq_then ?_ | refine gc_seq ?_ | refine gc_region ?_)
  refine g_ld 6 rfl rfl rfl rfl rfl rfl ?_
  refine g_call rfl (Cl.of Try.func22 rfl rfl) rfl rfl (fun w' hE => depthT_sp (sF g) w' (s_codeIn (hp_in hE 7 rfl g _ List.mem_cons_self))) rfl ?_
  rintro ⟨vk, Ak⟩ ⟨lk2, hok, hlk⟩
  obtain ⟨hl2, ll2, h1, h2⟩ := ite_t (sF_right g) hlk
  obtain ⟨-, rfl⟩ := h1.uniq s_loops
  obtain rfl : lk2 = [0, 1, 1, 0] := h2.trans s_dep
  rw [he]
  repeat' (first | refine g_pv rfl rfl ?_ | refine g_nil ?_ | refine gq_then ?_ | refine gc_seq ?_ | refine gc_region ?_)
  refine g_ld 7 rfl rfl rfl rfl rfl rfl ?_
  refine g_call rfl (Cl.of Try.func12 rfl rfl) rfl rfl (fun w' hE => liveT_sp (sF g) w' (s_codeIn (hp_in hE 8 rfl g _ List.mem_cons_self)) (fun x hx => (show ∀ x ∈ sCode, x.reads.length ≤ 1073741824 by decide) x hx)) rfl ?_
  rintro ⟨vm, lm, mm, vn, ln, mn⟩ ⟨hom, hon, hlm⟩
  obtain ⟨rfl, rfl⟩ : lm = [[], [0], [0], [0]] ∧ ln = [[0], [0], [0], []] := (ite_t (sF_right g) hlm).uniq s_live
  rw [he]
  repeat' (first | refine g_pv rfl rfl ?_ | refine g_nil ?_ | refine gq_then ?_ | refine gc_seq ?_ | refine gc_region ?_)
  refine g_build rfl rfl rfl rfl rfl ?_
  refine g_call rfl (Cl.of Try.func18 rfl rfl) rfl rfl (fun w' hE => idomT_sp zF w' (z_codeIn _)) rfl ?_
  rintro ⟨vp, Ap⟩ -
  rw [hz]
  repeat' (first | refine g_pv rfl rfl ?_ | refine g_nil ?_ | refine gq_then ?_ | refine gc_seq ?_ | refine gc_region ?_)
  repeat' (fail)
  refine g_call rfl (Cl.of Try.func15 rfl rfl) rfl rfl (fun w' hE => num_sp 0 w') rfl (fun _ _ => ?_)
  repeat' (first | refine g_pv rfl rfl ?_ | refine g_yes rfl rfl rfl ?_)
  refine g_litL rfl rfl rfl rfl rfl rfl rfl rfl rfl rfl (fun _ => ?_)
  repeat' (refine g_yes rfl rfl rfl ?_)
  refine g_call rfl (Cl.of Try.func14 rfl rfl) rfl rfl (fun w' hE => ints_sp [0, 1, 3] [0, 1, 3] _ _ w' (OwnI.rd hoa (hp_in hE 12 rfl)) (rdI_lit [0, 1, 3] (by decide) (hp_in hE 0 rfl _ _ List.mem_cons_self)) (by decide)) rfl (fun _ _ => ?_)
  refine g_eq 62 (u' := .bool true) rfl (by simp) ?_
  repeat' (first | refine g_pv rfl rfl ?_ | refine g_yes rfl rfl rfl ?_)
  refine g_call rfl (Cl.of Try.func15 rfl rfl) rfl rfl (fun w' hE => num_sp 0 w') rfl (fun _ _ => ?_)
  repeat' (first | refine g_pv rfl rfl ?_ | refine g_yes rfl rfl rfl ?_)
  refine g_litL rfl rfl rfl rfl rfl rfl rfl rfl rfl rfl (fun _ => ?_)
  repeat' (refine g_yes rfl rfl rfl ?_)
  refine g_call rfl (Cl.of Try.func14 rfl rfl) rfl rfl (fun w' hE => ints_sp [0, 1, 2, 3] [0, 1, 2, 3] _ _ w' (OwnI.rd hob (hp_in hE 12 rfl)) (rdI_lit [0, 1, 2, 3] (by decide) (hp_in hE 0 rfl _ _ List.mem_cons_self)) (by decide)) rfl (fun _ _ => ?_)
  refine g_eq 72 (u' := .bool true) rfl (by simp) ?_
  repeat' (first | refine g_pv rfl rfl ?_ | refine g_yes rfl rfl rfl ?_)
  refine g_call rfl (Cl.of Try.func15 rfl rfl) rfl rfl (fun w' hE => num_sp 0 w') rfl (fun _ _ => ?_)
  repeat' (first | refine g_pv rfl rfl ?_ | refine g_yes rfl rfl rfl ?_)
  refine g_litL rfl rfl rfl rfl rfl rfl rfl rfl rfl rfl (fun _ => ?_)
  repeat' (refine g_yes rfl rfl rfl ?_)
  refine g_call rfl (Cl.of Try.func14 rfl rfl) rfl rfl (fun w' hE => ints_sp [-1, 0, 1, 2] [-1, 0, 1, 2] _ _ w' (OwnI.rd hoc (hp_in hE 12 rfl)) (rdI_lit [-1, 0, 1, 2] (by decide) (hp_in hE 0 rfl _ _ List.mem_cons_self)) (by decide)) rfl (fun _ _ => ?_)
  refine g_eq 82 (u' := .bool true) rfl (by simp) ?_
  repeat' (first | refine g_pv rfl rfl ?_ | refine g_yes rfl rfl rfl ?_)
  refine g_call rfl (Cl.of Try.func15 rfl rfl) rfl rfl (fun w' hE => num_sp 0 w') rfl (fun _ _ => ?_)
  repeat' (first | refine g_pv rfl rfl ?_ | refine g_yes rfl rfl rfl ?_)
  refine g_litL rfl rfl rfl rfl rfl rfl rfl rfl rfl rfl (fun _ => ?_)
  repeat' (refine g_yes rfl rfl rfl ?_)
  refine g_call rfl (Cl.of Try.func14 rfl rfl) rfl rfl (fun w' hE => ints_sp [1] [1] _ _ w' (OwnI.rd hod (hp_in hE 10 rfl)) (rdI_lit [1] (by decide) (hp_in hE 0 rfl _ _ List.mem_cons_self)) (by decide)) rfl (fun _ _ => ?_)
  refine g_eq 92 (u' := .bool true) rfl (by simp) ?_
  repeat' (first | refine g_pv rfl rfl ?_ | refine g_yes rfl rfl rfl ?_)
  refine g_litL rfl rfl rfl rfl rfl rfl rfl rfl rfl rfl (fun _ => ?_)
  repeat' (refine g_yes rfl rfl rfl ?_)
  refine g_litL rfl rfl rfl rfl rfl rfl rfl rfl rfl rfl (fun _ => ?_)
  repeat' (refine g_yes rfl rfl rfl ?_)
  refine g_call rfl (Cl.of Try.func16 rfl rfl) rfl rfl (fun w' hE => lists_sp [[1, 2]] [[1, 2]] _ _ w' (hoi.rd (hp_in hE 13 rfl) (hp_in hE 14 rfl)) (rdLL_lit [_] [[1, 2]] rfl (by simp) (hp_in hE 0 rfl _ _ List.mem_cons_self) (fun i u l hu hl => ?_)) (by decide) (by decide)) rfl (fun _ _ => ?_)
  · cases i with
    | zero => cases hu; cases hl; exact rdI_lit [1, 2] (by decide) (hp_in hE 1 rfl _ _ List.mem_cons_self)
    | succ i => cases hu
  refine g_eq 98 (u' := .bool true) rfl (by simp) ?_
  repeat' (first | refine g_pv rfl rfl ?_ | refine g_yes rfl rfl rfl ?_)
  refine g_call rfl (Cl.of Try.func15 rfl rfl) rfl rfl (fun w' hE => num_sp 0 w') rfl (fun _ _ => ?_)
  repeat' (first | refine g_pv rfl rfl ?_ | refine g_yes rfl rfl rfl ?_)
  refine g_litL rfl rfl rfl rfl rfl rfl rfl rfl rfl rfl (fun _ => ?_)
  repeat' (refine g_yes rfl rfl rfl ?_)
  refine g_call rfl (Cl.of Try.func14 rfl rfl) rfl rfl (fun w' hE => ints_sp [0, 1, 1, 0] [0, 1, 1, 0] _ _ w' (OwnI.rd hok (hp_in hE 12 rfl)) (rdI_lit [0, 1, 1, 0] (by decide) (hp_in hE 0 rfl _ _ List.mem_cons_self)) (by decide)) rfl (fun _ _ => ?_)
  refine g_eq 108 (u' := .bool true) rfl (by simp) ?_
  repeat' (first | refine g_pv rfl rfl ?_ | refine g_yes rfl rfl rfl ?_)
  refine g_call rfl (Cl.of Try.func15 rfl rfl) rfl rfl (fun w' hE => num_sp 0 w') rfl (fun _ _ => ?_)
  repeat' (first | refine g_pv rfl rfl ?_ | refine g_yes rfl rfl rfl ?_)
  refine g_lit0 rfl rfl rfl (fun _ => ?_)
  repeat' (refine g_yes rfl rfl rfl ?_)
  refine g_litL rfl rfl rfl rfl rfl rfl rfl rfl rfl rfl (fun _ => ?_)
  repeat' (refine g_yes rfl rfl rfl ?_)
  refine g_litL rfl rfl rfl rfl rfl rfl rfl rfl rfl rfl (fun _ => ?_)
  repeat' (refine g_yes rfl rfl rfl ?_)
  refine g_litL rfl rfl rfl rfl rfl rfl rfl rfl rfl rfl (fun _ => ?_)
  repeat' (refine g_yes rfl rfl rfl ?_)
  refine g_litL rfl rfl rfl rfl rfl rfl rfl rfl rfl rfl (fun _ => ?_)
  repeat' (refine g_yes rfl rfl rfl ?_)
  refine g_call rfl (Cl.of Try.func16 rfl rfl) rfl rfl (fun w' hE => lists_sp [[], [0], [0], [0]] [[], [0], [0], [0]] _ _ w' (hom.rd (hp_in hE 13 rfl) (hp_in hE 14 rfl)) (rdLL_lit [_, _, _, _] [[], [0], [0], [0]] rfl (by simp) (hp_in hE 0 rfl _ _ List.mem_cons_self) (fun i u l hu hl => ?_)) (by decide) (by decide)) rfl (fun _ _ => ?_)
  · match i, hu, hl with
    | 0, hu, hl => cases hu; cases hl; exact rdI_nil _ _ _
    | 1, hu, hl => cases hu; cases hl; exact rdI_lit [0] (by decide) (hp_in hE 3 rfl _ _ List.mem_cons_self)
    | 2, hu, hl => cases hu; cases hl; exact rdI_lit [0] (by decide) (hp_in hE 2 rfl _ _ List.mem_cons_self)
    | 3, hu, hl => cases hu; cases hl; exact rdI_lit [0] (by decide) (hp_in hE 1 rfl _ _ List.mem_cons_self)
    | i + 4, hu, hl => cases hu
  refine g_eq 122 (u' := .bool true) rfl (by simp) ?_
  repeat' (first | refine g_pv rfl rfl ?_ | refine g_yes rfl rfl rfl ?_)
  refine g_litL rfl rfl rfl rfl rfl rfl rfl rfl rfl rfl (fun _ => ?_)
  repeat' (refine g_yes rfl rfl rfl ?_)
  refine g_litL rfl rfl rfl rfl rfl rfl rfl rfl rfl rfl (fun _ => ?_)
  repeat' (refine g_yes rfl rfl rfl ?_)
  refine g_litL rfl rfl rfl rfl rfl rfl rfl rfl rfl rfl (fun _ => ?_)
  repeat' (refine g_yes rfl rfl rfl ?_)
  refine g_lit0 rfl rfl rfl (fun _ => ?_)
  repeat' (refine g_yes rfl rfl rfl ?_)
  refine g_litL rfl rfl rfl rfl rfl rfl rfl rfl rfl rfl (fun _ => ?_)
  repeat' (refine g_yes rfl rfl rfl ?_)
  refine g_call rfl (Cl.of Try.func16 rfl rfl) rfl rfl (fun w' hE => lists_sp [[0], [0], [0], []] [[0], [0], [0], []] _ _ w' (hon.rd (hp_in hE 20 rfl) (hp_in hE 21 rfl)) (rdLL_lit [_, _, _, _] [[0], [0], [0], []] rfl (by simp) (hp_in hE 0 rfl _ _ List.mem_cons_self) (fun i u l hu hl => ?_)) (by decide) (by decide)) rfl (fun _ _ => ?_)
  · match i, hu, hl with
    | 0, hu, hl => cases hu; cases hl; exact rdI_lit [0] (by decide) (hp_in hE 4 rfl _ _ List.mem_cons_self)
    | 1, hu, hl => cases hu; cases hl; exact rdI_lit [0] (by decide) (hp_in hE 3 rfl _ _ List.mem_cons_self)
    | 2, hu, hl => cases hu; cases hl; exact rdI_lit [0] (by decide) (hp_in hE 2 rfl _ _ List.mem_cons_self)
    | 3, hu, hl => cases hu; cases hl; exact rdI_nil _ _ _
    | i + 4, hu, hl => cases hu
  refine g_eq 131 (u' := .bool true) rfl (by simp) ?_
  repeat' (first | refine g_pv rfl rfl ?_ | refine g_yes rfl rfl rfl ?_)
  refine g_call rfl (Cl.of Try.func15 rfl rfl) rfl rfl (fun w' hE => num_sp 160 w') rfl (fun _ _ => ?_)
  repeat' (first | refine g_pv rfl rfl ?_ | refine g_nil ?_ | refine gq_then ?_ | refine gc_ret ?_ | refine g_yes rfl rfl rfl ?_)
  exact gq_ret1 (.inr rfl) rfl rfl rfl (fun w' H => ⟨(), trivial, rfl, hp_nil H⟩)
end Go.Proofs.Ytpmkkmahimdjkaa

/- The law FlowGraph: what flow answers is what the document answers. -/
namespace Go.Proofs.Ytpmkkmahimdjkaa
open Go.Wk
set_option linter.unusedVariables false
set_option linter.unusedSimpArgs false
attribute [local irreducible] G GC GQ GA GS Exit.then Exit.inBlock

theorem la_eq {c : Bool} {S : Nat → Prop} {l m : List Int} (h : if c then IsSet l S else l = []) (h' : if c then IsSet m S else m = []) : l = m := by
  cases c with
  | true => exact (ite_t rfl h).eq (ite_t rfl h') (fun _ => Iff.rfl)
  | false => simp at h h'; rw [h, h']
theorem OwnI.small {v : Value} {l : List Int} {A : HL} (h : OwnI v l A) : l.length < 9223372036854775808 := by
  rcases h.own with ⟨-, rfl, -⟩ | ⟨g, cap, rest, -, -, h1, h2, -⟩
  · decide
  · unfold maxLen at h2; omega
theorem OwnLL.small {v : Value} {ll : List (List Int)} {m : LM} (h : OwnLL v ll m) : ll.length < 9223372036854775808 ∧ ∀ l ∈ ll, l.length < 9223372036854775808 := by
  constructor
  · have hl := h.len
    rcases h.row.2 with ⟨-, h0, -⟩ | ⟨g, cap, rest, -, -, h1, h2, -⟩
    · omega
    · unfold maxLen at h2; omega
  · intro l hl
    obtain ⟨i, hi, rfl⟩ := List.mem_iff_getElem.1 hl
    obtain ⟨u, a, -, -, ho⟩ := h.get hi
    exact ho.small

set_option maxHeartbeats 16000000 in
theorem flowGraph_sp (f : TF) (w : World) (hf : CodeIn (hw w) f.cA f.code) (hB : ∀ x ∈ f.code, x.reads.length ≤ 1073741824) : Sp Try.prog 3 [f.val] w [] (fun _ : Unit => .bool true) (fun _ => []) (fun _ => True) := by
  refine enter (s := Try.sx) [] Try.func3 rfl rfl rfl (Eff.refl w) ?_
  repeat' (first | refine g_pv rfl rfl ?_ | refine g_ld 0 rfl rfl rfl rfl rfl rfl ?_ | refine g_nil ?_ | refine gq_then ?_ | refine gc_seq ?_ | refine gc_region ?_ | refine g_box rfl rfl (fun _ => ?_))
  refine g_call rfl (Cl.of Try.func8 rfl rfl) rfl rfl (fun w' hE => starts_sp f w' (hf.le (fun b o h => old_le hE b o (old_le0 _ w b o h)))) rfl ?_
  rintro ⟨va, Aa⟩ ⟨la, hoa, hla⟩
  repeat' (first | refine g_pv rfl rfl ?_ | refine g_ld 1 rfl rfl rfl rfl rfl rfl ?_ | refine g_nil ?_ | refine gq_then ?_ | refine gc_seq ?_ | refine gc_region ?_)
  refine g_call rfl (Cl.of Try.func9 rfl rfl) rfl rfl (fun w' hE => rstarts_sp f w' (hf.le (fun b o h => old_le hE b o (old_le0 _ w b o h)))) rfl ?_
  rintro ⟨vb, Ab⟩ ⟨lb, hob, hlb⟩
  obtain rfl := la_eq hla hlb
  repeat' (first | refine g_pv rfl rfl ?_ | refine g_ld 2 rfl rfl rfl rfl rfl rfl ?_ | refine g_nil ?_ | refine gq_then ?_ | refine gc_seq ?_ | refine gc_region ?_)
  refine g_call rfl (Cl.of Try.func10 rfl rfl) rfl rfl (fun w' hE => reach_sp f w' (hf.le (fun b o h => old_le hE b o (old_le0 _ w b o h)))) rfl ?_
  rintro ⟨vc, Ac⟩ ⟨lc, hoc, hlc⟩
  repeat' (first | refine g_pv rfl rfl ?_ | refine g_ld 3 rfl rfl rfl rfl rfl rfl ?_ | refine g_nil ?_ | refine gq_then ?_ | refine gc_seq ?_ | refine gc_region ?_)
  refine g_call rfl (Cl.of Try.func11 rfl rfl) rfl rfl (fun w' hE => rreach_sp f w' (hf.le (fun b o h => old_le hE b o (old_le0 _ w b o h)))) rfl ?_
  rintro ⟨vd, Ad⟩ ⟨ld, hod, hld⟩
  obtain rfl := la_eq hlc hld
  repeat' (first | refine g_pv rfl rfl ?_ | refine g_ld 4 rfl rfl rfl rfl rfl rfl ?_ | refine g_nil ?_ | refine gq_then ?_ | refine gc_seq ?_ | refine gc_region ?_)
  refine g_call rfl (Cl.of Try.func12 rfl rfl) rfl rfl (fun w' hE => liveT_sp f w' (hf.le (fun b o h => old_le hE b o (old_le0 _ w b o h))) hB) rfl ?_
  rintro ⟨vm, lm, mm, vn, ln, mn⟩ ⟨hom, hon, hlm⟩
  dsimp only at hom hon hlm ⊢
  repeat' (first | refine g_pv rfl rfl ?_ | refine g_nil ?_ | refine gq_then ?_ | refine gc_seq ?_ | refine gc_region ?_)
  refine g_ld 8 rfl rfl rfl rfl rfl rfl ?_
  refine g_call rfl (Cl.of Try.func13 rfl rfl) rfl rfl (fun w' hE => rliveT_sp f w' (hf.le (fun b o h => old_le hE b o (old_le0 _ w b o h)))) rfl ?_
  rintro ⟨vp, lp, mp, vq, lq, mq⟩ ⟨hop, hoq, hlp⟩
  dsimp only at hom hon hlm hop hoq hlp ⊢
  obtain ⟨rfl, rfl⟩ : lm = lp ∧ ln = lq := by
    cases hr : f.right with
    | true => rw [hr] at hlm hlp; exact (ite_t rfl hlm).uniq (ite_t rfl hlp)
    | false => rw [hr] at hlm hlp; simp at hlm hlp; rw [hlm.1, hlm.2, hlp.1, hlp.2]; exact ⟨rfl, rfl⟩
  repeat' (first | refine g_pv rfl rfl ?_ | refine g_nil ?_ | refine gq_then ?_ | refine gc_seq ?_ | refine gc_region ?_)
  refine g_call rfl (Cl.of Try.func14 rfl rfl) rfl rfl (fun w' hE => ints_sp la la _ _ w' (OwnI.rd hoa (hp_in hE 11 rfl)) (OwnI.rd hob (hp_in hE 10 rfl)) hoa.small) rfl (fun _ _ => ?_)
  refine g_eq 51 (u' := .bool true) rfl (by simp) ?_
  repeat' (first | refine g_pv rfl rfl ?_ | refine g_yes rfl rfl rfl ?_)
  refine g_call rfl (Cl.of Try.func15 rfl rfl) rfl rfl (fun w' hE => num_sp (errOf f) w') rfl (fun _ _ => ?_)
  repeat' (first | refine g_pv rfl rfl ?_ | refine g_yes rfl rfl rfl ?_)
  refine g_eq 58 (u' := .bool true) rfl (by simp) ?_
  repeat' (first | refine g_pv rfl rfl ?_ | refine g_yes rfl rfl rfl ?_)
  refine g_call rfl (Cl.of Try.func14 rfl rfl) rfl rfl (fun w' hE => ints_sp lc lc _ _ w' (OwnI.rd hoc (hp_in hE 9 rfl)) (OwnI.rd hod (hp_in hE 8 rfl)) hoc.small) rfl (fun _ _ => ?_)
  refine g_eq 61 (u' := .bool true) rfl (by simp) ?_
  repeat' (first | refine g_pv rfl rfl ?_ | refine g_yes rfl rfl rfl ?_)
  refine g_call rfl (Cl.of Try.func15 rfl rfl) rfl rfl (fun w' hE => num_sp (errOf f) w') rfl (fun _ _ => ?_)
  repeat' (first | refine g_pv rfl rfl ?_ | refine g_yes rfl rfl rfl ?_)
  refine g_eq 69 (u' := .bool true) rfl (by simp) ?_
  repeat' (first | refine g_pv rfl rfl ?_ | refine g_yes rfl rfl rfl ?_)
  refine g_call rfl (Cl.of Try.func16 rfl rfl) rfl rfl (fun w' hE => lists_sp lm lm _ _ w' (hom.rd (hp_in hE 4 rfl) (hp_in hE 5 rfl)) (hop.rd (hp_in hE 0 rfl) (hp_in hE 1 rfl)) hom.small.1 hom.small.2) rfl (fun _ _ => ?_)
  refine g_eq 72 (u' := .bool true) rfl (by simp) ?_
  repeat' (first | refine g_pv rfl rfl ?_ | refine g_yes rfl rfl rfl ?_)
  refine g_call rfl (Cl.of Try.func16 rfl rfl) rfl rfl (fun w' hE => lists_sp ln ln _ _ w' (hon.rd (hp_in hE 6 rfl) (hp_in hE 7 rfl)) (hoq.rd (hp_in hE 2 rfl) (hp_in hE 3 rfl)) hon.small.1 hon.small.2) rfl (fun _ _ => ?_)
  refine g_eq 77 (u' := .bool true) rfl (by simp) ?_
  repeat' (first | refine g_pv rfl rfl ?_ | refine g_yes rfl rfl rfl ?_)
  refine g_call rfl (Cl.of Try.func15 rfl rfl) rfl rfl (fun w' hE => num_sp (errOf f) w') rfl (fun _ _ => ?_)
  repeat' (first | refine g_pv rfl rfl ?_ | refine g_yes rfl rfl rfl ?_)
  refine g_eq 85 (u' := .bool true) rfl (by simp) ?_
  repeat' (refine g_yes rfl rfl rfl ?_)
  refine g_call rfl (Cl.of Try.func17 rfl rfl) rfl rfl (fun w' hE => heads_sp w') rfl (fun _ _ => ?_)
  repeat' (first | refine g_pv rfl rfl ?_ | refine g_nil ?_ | refine gq_then ?_ | refine gc_ret ?_)
  exact gq_ret1 (.inr rfl) rfl rfl rfl (fun w' H => ⟨(), trivial, rfl, hp_nil H⟩)
end Go.Proofs.Ytpmkkmahimdjkaa

/- The law FlowLoops: idom, loops and depth answer as the document's. -/
namespace Go.Proofs.Ytpmkkmahimdjkaa
open Go.Wk
set_option linter.unusedVariables false
set_option linter.unusedSimpArgs false
attribute [local irreducible] G GC GQ GA GS Exit.then Exit.inBlock

theorem id_eq {f : TF} {l m : List Int} (h : if f.right then IsIdom (nxt f.code) f.code.length l else l = []) (h' : if f.right then IsIdom (nxt f.code) f.code.length m else m = []) : l = m := by
  cases hr : f.right with
  | true =>
    rw [hr] at h h'
    have h := ite_t rfl h
    obtain ⟨num, M, N, -⟩ := h.num
    exact h.uniq N (ite_t rfl h')
  | false => rw [hr] at h h'; simp at h h'; rw [h, h']

set_option maxHeartbeats 16000000 in
theorem flowLoops_sp (f : TF) (w : World) (hf : CodeIn (hw w) f.cA f.code) : Sp Try.prog 4 [f.val] w [] (fun _ : Unit => .bool true) (fun _ => []) (fun _ => True) := by
  refine enter (s := Try.sx) [] Try.func4 rfl rfl rfl (Eff.refl w) ?_
  repeat' (first | refine g_pv rfl rfl ?_ | refine g_ld 0 rfl rfl rfl rfl rfl rfl ?_ | refine g_nil ?_ | refine gq_then ?_ | refine gc_seq ?_ | refine gc_region ?_ | refine g_box rfl rfl (fun _ => ?_))
  refine g_call rfl (Cl.of Try.func18 rfl rfl) rfl rfl (fun w' hE => idomT_sp f w' (hf.le (fun b o h => old_le hE b o (old_le0 _ w b o h)))) rfl ?_
  rintro ⟨va, Aa⟩ ⟨la, hoa, hla⟩
  repeat' (first | refine g_pv rfl rfl ?_ | refine g_ld 1 rfl rfl rfl rfl rfl rfl ?_ | refine g_nil ?_ | refine gq_then ?_ | refine gc_seq ?_ | refine gc_region ?_)
  refine g_call rfl (Cl.of Try.func19 rfl rfl) rfl rfl (fun w' hE => ridomT_sp f w' (hf.le (fun b o h => old_le hE b o (old_le0 _ w b o h)))) rfl ?_
  rintro ⟨vb, Ab⟩ ⟨lb, hob, hlb⟩
  obtain rfl := id_eq hla hlb
  repeat' (first | refine g_pv rfl rfl ?_ | refine g_ld 2 rfl rfl rfl rfl rfl rfl ?_ | refine g_nil ?_ | refine gq_then ?_ | refine gc_seq ?_ | refine gc_region ?_)
  refine g_call rfl (Cl.of Try.func20 rfl rfl) rfl rfl (fun w' hE => loopsT_sp f w' (hf.le (fun b o h => old_le hE b o (old_le0 _ w b o h)))) rfl ?_
  rintro ⟨vc, Ac, lc, vd, ld, md⟩ ⟨hoc, hod, hld⟩
  dsimp only at hoc hod hld ⊢
  repeat' (first | refine g_pv rfl rfl ?_ | refine g_nil ?_ | refine gq_then ?_ | refine gc_seq ?_ | refine gc_region ?_)
  refine g_ld 5 rfl rfl rfl rfl rfl rfl ?_
  refine g_call rfl (Cl.of Try.func21 rfl rfl) rfl rfl (fun w' hE => rloopsT_sp f w' (hf.le (fun b o h => old_le hE b o (old_le0 _ w b o h)))) rfl ?_
  rintro ⟨ve, Ae, le, vf, lf, mf⟩ ⟨hoe, hof, hlf⟩
  dsimp only at hoe hof hlf ⊢
  obtain ⟨rfl, rfl⟩ : lc = le ∧ ld = lf := by
    cases hr : f.right with
    | true => rw [hr] at hld hlf; exact (ite_t rfl hld).uniq (ite_t rfl hlf)
    | false => rw [hr] at hld hlf; simp at hld hlf; rw [hld.1, hld.2, hlf.1, hlf.2]; exact ⟨rfl, rfl⟩
  repeat' (first | refine g_pv rfl rfl ?_ | refine g_nil ?_ | refine gq_then ?_ | refine gc_seq ?_ | refine gc_region ?_)
  refine g_ld 8 rfl rfl rfl rfl rfl rfl ?_
  refine g_call rfl (Cl.of Try.func22 rfl rfl) rfl rfl (fun w' hE => depthT_sp f w' (hf.le (fun b o h => old_le hE b o (old_le0 _ w b o h)))) rfl ?_
  rintro ⟨vg, Ag⟩ ⟨lg, hog, hlg⟩
  repeat' (first | refine g_pv rfl rfl ?_ | refine g_nil ?_ | refine gq_then ?_ | refine gc_seq ?_ | refine gc_region ?_)
  refine g_ld 9 rfl rfl rfl rfl rfl rfl ?_
  refine g_call rfl (Cl.of Try.func23 rfl rfl) rfl rfl (fun w' hE => rdepthT_sp f w' (hf.le (fun b o h => old_le hE b o (old_le0 _ w b o h)))) rfl ?_
  rintro ⟨vh, Ah⟩ ⟨lh, hoh, hlh⟩
  obtain rfl : lg = lh := by
    cases hr : f.right with
    | true =>
      rw [hr] at hlg hlh
      obtain ⟨a1, a2, a3, a4⟩ := ite_t rfl hlg
      obtain ⟨b1, b2, b3, b4⟩ := ite_t rfl hlh
      rw [a4, b4, (a3.uniq b3).2]
    | false => rw [hr] at hlg hlh; simp at hlg hlh; rw [hlg, hlh]
  repeat' (first | refine g_pv rfl rfl ?_ | refine g_nil ?_ | refine gq_then ?_ | refine gc_seq ?_ | refine gc_region ?_)
  refine g_call rfl (Cl.of Try.func14 rfl rfl) rfl rfl (fun w' hE => ints_sp la la _ _ w' (OwnI.rd hoa (hp_in hE 9 rfl)) (OwnI.rd hob (hp_in hE 8 rfl)) hoa.small) rfl (fun _ _ => ?_)
  refine g_eq 51 (u' := .bool true) rfl (by simp) ?_
  repeat' (first | refine g_pv rfl rfl ?_ | refine g_yes rfl rfl rfl ?_)
  refine g_call rfl (Cl.of Try.func15 rfl rfl) rfl rfl (fun w' hE => num_sp (errOf f) w') rfl (fun _ _ => ?_)
  repeat' (first | refine g_pv rfl rfl ?_ | refine g_yes rfl rfl rfl ?_)
  refine g_eq 58 (u' := .bool true) rfl (by simp) ?_
  repeat' (first | refine g_pv rfl rfl ?_ | refine g_yes rfl rfl rfl ?_)
  refine g_call rfl (Cl.of Try.func14 rfl rfl) rfl rfl (fun w' hE => ints_sp lc lc _ _ w' (OwnI.rd hoc (hp_in hE 5 rfl)) (OwnI.rd hoe (hp_in hE 2 rfl)) hoc.small) rfl (fun _ _ => ?_)
  refine g_eq 61 (u' := .bool true) rfl (by simp) ?_
  repeat' (first | refine g_pv rfl rfl ?_ | refine g_yes rfl rfl rfl ?_)
  refine g_call rfl (Cl.of Try.func16 rfl rfl) rfl rfl (fun w' hE => lists_sp ld ld _ _ w' (hod.rd (hp_in hE 6 rfl) (hp_in hE 7 rfl)) (hof.rd (hp_in hE 3 rfl) (hp_in hE 4 rfl)) hod.small.1 hod.small.2) rfl (fun _ _ => ?_)
  refine g_eq 66 (u' := .bool true) rfl (by simp) ?_
  repeat' (first | refine g_pv rfl rfl ?_ | refine g_yes rfl rfl rfl ?_)
  refine g_call rfl (Cl.of Try.func15 rfl rfl) rfl rfl (fun w' hE => num_sp (errOf f) w') rfl (fun _ _ => ?_)
  repeat' (first | refine g_pv rfl rfl ?_ | refine g_yes rfl rfl rfl ?_)
  refine g_eq 74 (u' := .bool true) rfl (by simp) ?_
  repeat' (first | refine g_pv rfl rfl ?_ | refine g_yes rfl rfl rfl ?_)
  refine g_call rfl (Cl.of Try.func14 rfl rfl) rfl rfl (fun w' hE => ints_sp lg lg _ _ w' (OwnI.rd hog (hp_in hE 1 rfl)) (OwnI.rd hoh (hp_in hE 0 rfl)) hog.small) rfl (fun _ _ => ?_)
  refine g_eq 77 (u' := .bool true) rfl (by simp) ?_
  repeat' (first | refine g_pv rfl rfl ?_ | refine g_yes rfl rfl rfl ?_)
  refine g_call rfl (Cl.of Try.func15 rfl rfl) rfl rfl (fun w' hE => num_sp (errOf f) w') rfl (fun _ _ => ?_)
  repeat' (first | refine g_pv rfl rfl ?_ | refine g_yes rfl rfl rfl ?_)
  refine g_eq 85 (u' := .bool true) rfl (by simp) ?_
  repeat' (refine g_yes rfl rfl rfl ?_)
  refine g_call rfl (Cl.of Try.func17 rfl rfl) rfl rfl (fun w' hE => heads_sp w') rfl (fun _ _ => ?_)
  repeat' (first | refine g_pv rfl rfl ?_ | refine g_nil ?_ | refine gq_then ?_ | refine gc_ret ?_)
  exact gq_ret1 (.inr rfl) rfl rfl rfl (fun w' H => ⟨(), trivial, rfl, hp_nil H⟩)
end Go.Proofs.Ytpmkkmahimdjkaa
