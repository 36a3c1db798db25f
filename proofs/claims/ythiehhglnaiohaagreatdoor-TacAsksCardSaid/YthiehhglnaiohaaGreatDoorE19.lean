/-
  Rounds; the knot; a closed call, reckoned.
-/
import Derived.Test.YthiehhglnaiohaaGreatDoorE18
import Derived.RangeFuncRecord
import Derived.RangeFuncIn
namespace Go.Ev
open Go.Wk
set_option linter.unusedVariables false
set_option linter.unusedSimpArgs false

def zipE : List Tmp → List Value → Fm → Option Fm
  | p :: ps, v :: vs, fm => (fm.put (some p) v).bind (zipE ps vs)
  | _, _, fm => some fm
def isRdy : LoopState → Bool
  | .ready => true
  | _ => false
def endE (k : Nat) (s : St) (j : Option Code) : Option (Er × St) := match s.h.get k with
  | some (.loop lp) => (s.upd k (some (.loop { lp with state := bif j.isNone then .ready else .done, pending := j }))).bind fun s' => some (.ret (.bool j.isNone), s')
  | _ => none
def rndE (k : Nat) (r : Ex × Fm × St) : Option (Er × St) := match r.1 with
  | .norm => endE k r.2.2 none
  | .ret => endE k r.2.2 (some .ret)
  | .exit i => endE k r.2.2 (some (.exit i))
  | _ => none
def busE (k : Nat) (s : St) : Option St := match s.h.get k with
  | some (.loop lp) => bif isRdy lp.state then s.upd k (some (.loop { lp with state := .busy })) else none
  | _ => none
def nrmE (r : Ex × Fm × St) : Option (Fm × St) := match r.1 with
  | .norm => some r.2
  | _ => none
def yl1 (C : Ct) (K : Cal) (LF : Nat) (k : Nat) (lp : Loop) (args : List Value) (s : St) : Option (Er × St) :=
  bif Nat.beq args.length lp.params.toList.length then
    (iniE lp.tmps.toList 0 .e).bind fun t => (zipE lp.params.toList args ⟨lp.tmps.toList.length, t, []⟩).bind fun fm =>
    (codE C K false LF lp.assign fm s).bind fun r => (nrmE r).bind fun q => (busE k q.2).bind fun s1 => (codE C K false LF lp.body q.1 s1).bind fun r2 => rndE k r2
  else none
def ylE (C : Ct) (K : Cal) (LF : Nat) (l : Nat) (args : List Value) (s : St) : Option (Er × St) := bif Nat.ble BB l then (match s.h.get (l - BB) with
  | some (.loop lp) => yl1 C K LF (l - BB) lp args s
  | _ => none) else none

section
variable {C : Ct} {w0 : World} {D : Nat → Prop} {N : Nat} {K : Cal} {LF : Nat}

theorem zipE_spec {ρ : Env} : ∀ {ps : List Tmp} {vs us : List Value} {fm fm' : Fm} {a : Act}, Fr ρ N fm a → concs ρ vs = some us → zipE ps vs fm = some fm' → Fr ρ N fm' { a with tmps := (ps.zip us).foldl (fun t (q : Tmp × Value) => t.setIfInBounds q.1 q.2) a.tmps }
  | [], vs, us, fm, fm', a, h, hv, hz => by
    cases vs <;> (simp only [zipE, Option.some.injEq] at hz; subst hz; simpa using h)
  | p :: ps, [], us, fm, fm', a, h, hv, hz => by
    rw [concs_nil] at hv; cases hv
    simp only [zipE, Option.some.injEq] at hz; subst hz; simpa using h
  | p :: ps, v :: vs, us, fm, fm', a, h, hv, hz => by
    obtain ⟨u, t, g1, g2, rfl⟩ := concs_cons.1 hv
    simp only [zipE] at hz
    obtain ⟨fm1, hf1, hz⟩ := Option.bind_eq_some_iff.1 hz
    have h1 := h.put g1 hf1
    have h2 := zipE_spec h1 g2 hz
    simpa [Act.put] using h2
theorem upd_loop {ρ : Env} {s : St} {w : World} {k : Nat} {L : Loc} {lp : Loop} (H : Sr C w0 D ρ s w) (hk : s.h.get k = some (.loop lp)) (hL : ρ[k]? = some L) :
    ∃ t d, concA ρ lp.tmps = some t ∧ cad ρ lp.defers = some d ∧ w.heap[L.ad]? = some (.loop { lp with tmps := t, defers := d, fn := L.cap }) ∧
      ∀ st pe s', s.upd k (some (.loop { lp with state := st, pending := pe })) = some s' → Sr C w0 D ρ s' (w.putObj L.ad (.loop { { lp with tmps := t, defers := d, fn := L.cap } with state := st, pending := pe })) := by
  obtain ⟨L2, o', q1, q2, q3⟩ := H.holds _ _ hk
  rw [hL] at q1; cases q1
  obtain ⟨t, d, q4, q5, rfl⟩ := concO_loop q2
  refine ⟨t, d, q4, q5, q3, fun st pe s' hs => ?_⟩
  have hlt := (Array.getElem?_eq_some_iff.1 q3).1
  refine H.write hk hL (concO_mkloop (lp := { lp with state := st, pending := pe }) q4 q5) hs (World.putObj_heap_same hlt) (fun z _ hz => World.putObj_heap_other hz) (by simp [World.putObj]) rfl rfl rfl
theorem endE_spec {ρ : Env} {s s' : St} {w : World} {k : Nat} {L : Loc} {j : Option Code} {r : Er} (H : Sr C w0 D ρ s w) (hL : ρ[k]? = some L) (h : endE k s j = some (r, s')) :
    ∃ v w', (Instr.endRound L.ad j).run C.P w = .ok v w' ∧ ErR ρ r (.returned v) ∧ Sr C w0 D ρ s' w' := by
  unfold endE at h
  split at h
  · rename_i lp hk
    obtain ⟨s1, hs1, h⟩ := Option.bind_eq_some_iff.1 h
    cases h
    obtain ⟨t, d, q4, q5, q3, hup⟩ := upd_loop H hk hL
    refine ⟨_, _, run_endRound j q3, ?_, ?_⟩
    · show conc ρ (.bool j.isNone) = some (.bool j.isNone)
      simp [conc]
    · have h5 := hup _ _ _ hs1
      cases j <;> exact h5
  · cases h
theorem rndE_spec {ρ ρ' : Env} {k : Nat} {L : Loc} {r : Er} {s' : St} {x : Ex × Fm × St} {e : Exit} {a : Act} {w : World} (hp : PoE C w0 D ρ N x e a w) (hL : ρ[k]? = some L) (h : rndE k x = some (r, s'))
    (hm : ∀ τ (e : Ending) w', ErR (ρ ++ τ) r e → Sr C w0 D (ρ ++ τ) s' w' → ∃ σ, ErR (ρ' ++ σ) r e ∧ Sr C w0 D (ρ' ++ σ) s' w') :
    roundPost C.P L.ad (fun e w' => ∃ τ, ErR (ρ' ++ τ) r e ∧ Sr C w0 D (ρ' ++ τ) s' w') e a w := by
  obtain ⟨τ, h1, h2, h3, h4⟩ := hp
  obtain ⟨y, fm, s⟩ := x
  have hL' : (ρ ++ τ)[k]? = some L := by rw [List.getElem?_append_left (List.getElem?_eq_some_iff.1 hL).1]; exact hL
  cases y with
  | norm =>
    cases e with
    | normal =>
      obtain ⟨v, w', g1, g2, g3⟩ := endE_spec h4 hL' h
      exact ⟨v, w', g1, hm _ _ _ g2 g3⟩
    | _ => exact h1.elim
  | ret =>
    cases e with
    | ret =>
      obtain ⟨v, w', g1, g2, g3⟩ := endE_spec h4 hL' h
      exact ⟨v, w', g1, hm _ _ _ g2 g3⟩
    | _ => exact h1.elim
  | exit i =>
    cases e with
    | exit j =>
      have hj : i = j := h1
      subst hj
      obtain ⟨v, w', g1, g2, g3⟩ := endE_spec h4 hL' h
      exact ⟨v, w', g1, hm _ _ _ g2 g3⟩
    | _ => exact h1.elim
  | goto i => cases h
  | pan ch => cases h
theorem ylE_spec (hK : CalOk C K) {l : Nat} {args : List Value} {s s' : St} {r : Er} (hb : ylE C K LF l args s = some (r, s')) : ∀ w0 D ρ w l' us, Sr C w0 D ρ s w → cad ρ l = some l' → concs ρ args = some us →
    ∃ f tmps assign body, (Instr.yield l' us.toArray).run C.P w = .ok (.round l' f tmps assign body) w ∧ RoundIn (Wk.Fr none) 0 C.P l' f tmps assign body w (fun e w' => ∃ τ, ErR (ρ ++ τ) r e ∧ Sr C w0 D (ρ ++ τ) s' w') := by
  intro w0 D ρ w l' us H hl hus
  unfold ylE at hb
  cases hbb : Nat.ble BB l with
  | false => rw [hbb] at hb; cases hb
  | true =>
    rw [hbb, cond_true] at hb
    obtain ⟨L, hL, rfl⟩ := cad_own hbb hl
    clear hl hbb
    generalize l - BB = k at hb hL
    split at hb
    · rename_i lp hk
      unfold yl1 at hb
      cases hle : Nat.beq args.length lp.params.toList.length with
      | false => rw [hle] at hb; cases hb
      | true =>
        rw [hle, cond_true] at hb
        obtain ⟨t, ht, hb⟩ := Option.bind_eq_some_iff.1 hb
        obtain ⟨fm, hfm, hb⟩ := Option.bind_eq_some_iff.1 hb
        obtain ⟨r1, hr1, hb⟩ := Option.bind_eq_some_iff.1 hb
        obtain ⟨q, hq, hb⟩ := Option.bind_eq_some_iff.1 hb
        obtain ⟨s1, hs1, hb⟩ := Option.bind_eq_some_iff.1 hb
        obtain ⟨r2, hr2, hend⟩ := Option.bind_eq_some_iff.1 hb
        clear hb
        obtain ⟨tm, d, q4, q5, q3, hup⟩ := upd_loop H hk hL
        have hlen := concs_len hus
        have hsz : us.toArray.size = lp.params.size := by
          have := Nat.eq_of_beq_eq_true hle
          simp at this; simp; omega
        refine ⟨_, _, _, _, run_yield q3 hsz, ?_⟩
        have q4' := concA_iff.1 q4
        have hl4 := concs_len q4'
        have hf0 : Fr ρ lp.tmps.toList.length ⟨lp.tmps.toList.length, t, []⟩ { tmps := tm, defers := [] } := by
          refine Fr.ini q4' ht (by simpa using hl4) (by omega) (fun i => ?_)
          rw [Array.getD_eq_getD_getElem?, Array.getElem?_toList]
        have hf1 := zipE_spec hf0 hus hfm
        have hzip : (lp.params.zip us.toArray).foldl (fun t (q : Tmp × Value) => t.setIfInBounds q.1 q.2) tm = (lp.params.toList.zip us).foldl (fun t (q : Tmp × Value) => t.setIfInBounds q.1 q.2) tm := by
          rw [← Array.foldl_toList]; simp
        refine roundIn_of_wpIn (F := Wk.Fr none) (n := 0) (by simp [Fence.wide]) ?_
        show lp.assign.wpIn (Wk.Fr (some L.ad)) 0 C.P _ _ w
        simp only [hzip]
        refine wpIn_mono (codE_spec (ro := some L.ad) (dok := false) hK (fun hh => by cases hh) hf1 H hr1) (fun e a w1 hp => ?_)
        obtain ⟨τ, h1, h2, h3, h4⟩ := hp
        obtain ⟨x1, fm1, s2⟩ := r1
        cases x1 with
        | norm =>
          cases hq
          cases e with
          | normal =>
            have hf2 := h3 rfl
            have hL' : (ρ ++ τ)[k]? = some L := by rw [List.getElem?_append_left (List.getElem?_eq_some_iff.1 hL).1]; exact hL
            unfold busE at hs1
            split at hs1
            · rename_i lp2 hk2
              cases hrd : isRdy lp2.state with
              | false => rw [hrd] at hs1; cases hs1
              | true =>
                rw [hrd, cond_true] at hs1
                have hst : lp2.state = .ready := by cases hs : lp2.state <;> rw [hs] at hrd <;> first | rfl | cases hrd
                obtain ⟨t2, d2, p4, p5, p3, hup2⟩ := upd_loop h4 hk2 hL'
                have H2 := hup2 .busy lp2.pending _ hs1
                refine ⟨_, run_beginRound p3 hst, ?_⟩
                refine wpIn_mono (codE_spec (ro := some L.ad) (dok := false) hK (fun hh => by cases hh) hf2 H2 hr2) (fun e a w1 hp => ?_)
                refine rndE_spec hp hL' hend (fun σ e w' g1 g2 => ?_)
                rw [List.append_assoc] at g1 g2
                exact ⟨τ ++ σ, g1, g2⟩
            · cases hs1
          | _ => exact h1.elim
        | _ => cases hq
    · cases hb

/-! ### The knot -/
def calNone : Cal := ⟨fun _ _ _ => none, fun _ _ _ => none⟩
theorem calNone_ok : CalOk C calNone := ⟨(fun _ _ _ _ _ h => by cases h), (fun _ _ _ _ _ h => by cases h)⟩
def evK (C : Ct) (LF : Nat) : Nat → Cal
  | 0 => calNone
  | k + 1 => ⟨fnE C (evK C LF k) (dclE C (evK C LF k) LF) LF, ylE C (evK C LF k) LF⟩
theorem evK_ok : ∀ k, CalOk C (evK C LF k)
  | 0 => calNone_ok
  | k + 1 => ⟨fun _ _ _ _ _ h => fnE_spec (evK_ok k) (dclE_spec (evK_ok k)) h, fun _ _ _ _ _ h => ylE_spec (evK_ok k) h⟩
def isTrue : Option (Er × St) → Bool
  | some (.ret (.bool true), _) => true
  | _ => false
theorem isTrue_iff {x : Option (Er × St)} (h : isTrue x = true) : ∃ s, x = some (.ret (.bool true), s) := by
  unfold isTrue at h
  split at h
  · exact ⟨_, rfl⟩
  · cases h
theorem Sr.start (C : Ct) (w : World) (hg : ∀ g o, C.gl.get g = some o → w.heap[g]? = some o) : Sr C w (fun _ => False) [] ⟨0, .e⟩ w where
  len := rfl
  holds := fun k o h => by cases h
  inj := fun k k' o o' l l' h => by cases h
  fresh := fun k o l h => by cases h
  keep := fun b _ _ => rfl
  size := Nat.le_refl _
  os := rfl
  tape := rfl
  output := rfl
  glob := fun g o h => ⟨hg g o h, fun k o' l hk => by cases hk⟩
/-- **A closed call, reckoned**: that answers true, and leaves what stood. -/
theorem closedCall (C : Ct) {LF k : Nat} {f : FuncId} (h : isTrue ((evK C LF k).fn f [] ⟨0, .e⟩) = true) (w : World) (hg : ∀ g o, C.gl.get g = some o → w.heap[g]? = some o) :
    Wk.Sp C.P f [] w [] (fun _ : Unit => .bool true) (fun _ => []) (fun _ => True) := by
  obtain ⟨s, hs⟩ := isTrue_iff h
  obtain ⟨_, hc⟩ := (evK_ok k).fn _ _ _ _ _ hs
  refine Calls.mono (hc w (fun _ => False) [] w [] (Sr.start C w hg) (concs_nil _)) ?_
  rintro e w' ⟨τ, h1, h2⟩
  refine ⟨(), trivial, ?_, ?_⟩
  · cases e with
    | returned u =>
      have h3 : conc ([] ++ τ) (.bool true) = some u := h1
      simp only [conc, Option.some.injEq] at h3
      rw [h3]
    | _ => exact h1.elim
  · exact ⟨by simp, by simp [ids], by simp [ids], fun b hb _ => h2.keep b hb (fun hf => hf), h2.size, h2.os, h2.tape, h2.output⟩
end
end Go.Ev
