/-
  A region that draws its order, reckoned; code without ranges over functions.
-/
import Derived.Test.YthiehhglnaiohaaGreatDoorE14
namespace Go.Ev
open Go.Wk
set_option linter.unusedVariables false
set_option linter.unusedSimpArgs false

/-! ### Equal coded values -/
mutual
def beqV : Nat → Value → Value → Bool
  | 0, _, _ => false
  | f + 1, .bool a, .bool b => a == b
  | f + 1, .int j a, .int k b => decide (j = k) && decide (a = b)
  | f + 1, .string a, .string b => eqB a.data.toList b.data.toList
  | f + 1, .pointer a, .pointer b => decide (a = b)
  | f + 1, .slice a n c, .slice b m d => decide (a = b) && Nat.beq n m && Nat.beq c d
  | f + 1, .map a, .map b => decide (a = b)
  | f + 1, .nilFunc, .nilFunc => true
  | f + 1, .func (.func a) l m, .func (.func b) l' m' => Nat.beq a b && beqL f l.toList l'.toList && beqL f m.toList m'.toList
  | f + 1, .nilIface, .nilIface => true
  | f + 1, .iface t v, .iface u w => Nat.beq t u && beqV f v w
  | f + 1, .agg l, .agg m => beqL f l.toList m.toList
  | f + 1, .tuple l, .tuple m => beqL f l.toList m.toList
  | _, _, _ => false
def beqL : Nat → List Value → List Value → Bool
  | 0, _, _ => false
  | f + 1, [], [] => true
  | f + 1, v :: r, w :: t => beqV f v w && beqL f r t
  | _, _, _ => false
end
mutual
theorem beqV_eq : ∀ (f : Nat) (a b : Value), beqV f a b = true → a = b
  | 0, a, b, h => by simp [beqV] at h
  | f + 1, a, b, h => by
    unfold beqV at h
    split at h
    · cases ‹_ = 0›
    · simp at h; rw [h]
    · simp at h; rw [h.1, h.2]
    · rename_i a b _
      rw [eqB_beq, beq_toListBytes, ByteArray.toList_eq, ByteArray.toList_eq] at h
      simp only [beq_iff_eq] at h
      rw [bytes_eq h, bytes_eq (a := b) rfl]
    · simp at h; rw [h]
    · simp only [Bool.and_eq_true, decide_eq_true_eq] at h
      rw [h.1.1, Nat.eq_of_beq_eq_true h.1.2, Nat.eq_of_beq_eq_true h.2]
    · simp at h; rw [h]
    · rfl
    · simp only [Bool.and_eq_true] at h
      have e1 := beqL_eq _ _ _ h.1.2
      have e2 := beqL_eq _ _ _ h.2
      rw [Nat.eq_of_beq_eq_true h.1.1, Array.toList_inj.1 e1, Array.toList_inj.1 e2]
    · rfl
    · simp only [Bool.and_eq_true] at h
      rw [Nat.eq_of_beq_eq_true h.1, beqV_eq _ _ _ h.2]
    · rw [Array.toList_inj.1 (beqL_eq _ _ _ h)]
    · rw [Array.toList_inj.1 (beqL_eq _ _ _ h)]
    · cases h
theorem beqL_eq : ∀ (f : Nat) (a b : List Value), beqL f a b = true → a = b
  | 0, a, b, h => by simp [beqL] at h
  | f + 1, a, b, h => by
    unfold beqL at h
    split at h
    · cases ‹_ = 0›
    · rfl
    · simp only [Bool.and_eq_true] at h
      rw [beqV_eq _ _ _ h.1, beqL_eq _ _ _ h.2]
    · cases h
end

/-! ### Loads that were taken first -/
abbrev Lds := List (TypeId × Value × Value)
def SL (P : Program) (LA : Lds) : World → Prop := fun w => ∀ x ∈ LA, (Instr.loadAt x.1 x.2.1).run P w = .ok x.2.2 w
def LR (ρ : Env) : Lds → Lds → Prop
  | [], [] => True
  | (t, p, v) :: r, (t', p', v') :: r' => t = t' ∧ conc ρ p = some p' ∧ conc ρ v = some v' ∧ LR ρ r r'
  | _, _ => False
theorem LR.mono {ρ : Env} (τ : Env) : ∀ {l l' : Lds}, LR ρ l l' → LR (ρ ++ τ) l l'
  | [], [], _ => trivial
  | (t, p, v) :: r, (t', p', v') :: r', h => ⟨h.1, conc_mono τ h.2.1, conc_mono τ h.2.2.1, LR.mono τ h.2.2.2⟩
  | [], _ :: _, h => h.elim
  | _ :: _, [], h => h.elim
def againE (C : Ct) (s : St) (l : Lds) : Bool := l.all fun x => match ldE C s x.1 x.2.1 with
  | some v => beqV 200 v x.2.2
  | none => false
theorem againE_spec {C : Ct} {w0 : World} {D : Nat → Prop} {ρ : Env} {s : St} {w : World} (H : Sr C w0 D ρ s w) : ∀ {l l' : Lds}, LR ρ l l' → againE C s l = true → SL C.P l' w
  | [], [], _, _ => fun x hx => by cases hx
  | (t, p, v) :: r, (t', p', v') :: r', hl, h => by
    obtain ⟨rfl, h1, h2, h3⟩ := hl
    unfold againE at h
    simp only [List.all_cons, Bool.and_eq_true] at h
    have ih := againE_spec H h3 (by unfold againE; exact h.2)
    intro x hx
    rcases List.mem_cons.1 hx with rfl | hx
    · have h4 := h.1
      split at h4
      · rename_i u hu
        have := beqV_eq _ _ _ h4
        subst this
        obtain ⟨u', g1, g2⟩ := ldE_run H h1 hu
        rw [h2] at g1; cases g1
        exact g2
      · cases h4
    · exact ih x hx
  | [], _ :: _, hl, _ => hl.elim
  | _ :: _, [], hl, _ => hl.elim

/-! ### A region that draws -/
def eraE : List Oper → Tr Value → Option (Tr Value)
  | [], t => some t
  | o :: r, t => match o.dst with
    | none => eraE r t
    | some d => bif Nat.blt (Nat.succ d) TOP then eraE r (t.set d none) else none
theorem eraE_sub : ∀ {l : List Oper} {t t' : Tr Value}, eraE l t = some t' → ∀ i v, t'.get i = some v → t.get i = some v
  | [], t, t', h, i, v, hi => by simp only [eraE, Option.some.injEq] at h; subst h; exact hi
  | o :: r, t, t', h, i, v, hi => by
    simp only [eraE] at h
    split at h
    · exact eraE_sub h i v hi
    · rename_i d hd
      cases hb : Nat.blt (Nat.succ d) TOP with
      | false => rw [hb] at h; cases h
      | true =>
        rw [hb, cond_true] at h
        have := eraE_sub h i v hi
        rw [Tr.get_set _ hb] at this
        split at this
        · cases this
        · exact this
theorem eraE_none : ∀ {l : List Oper} {t t' : Tr Value}, eraE l t = some t' → ∀ o ∈ l, ∀ d, o.dst = some d → t'.get d = none
  | [], _, _, _, x, hx, _, _ => by cases hx
  | o :: r, t, t', h, x, hx, d, hd => by
    have hsub : ∀ {t1 : Tr Value}, eraE r t1 = some t' → t1.get d = none → t'.get d = none := fun h1 h2 => by
      cases hq : t'.get d with
      | none => rfl
      | some v => rw [eraE_sub h1 d v hq] at h2; cases h2
    simp only [eraE] at h
    split at h
    · rename_i hod
      rcases List.mem_cons.1 hx with rfl | hx
      · rw [hod] at hd; cases hd
      · exact eraE_none h x hx d hd
    · rename_i d' hod
      cases hb : Nat.blt (Nat.succ d') TOP with
      | false => rw [hb] at h; cases h
      | true =>
        rw [hb, cond_true] at h
        rcases List.mem_cons.1 hx with rfl | hx
        · rw [hod] at hd; cases hd
          exact hsub h (by rw [Tr.get_set _ hb, if_pos rfl])
        · exact eraE_none h x hx d hd

/-- What may be taken first: its value, and whether it is a load (type, address). -/
def qE (C : Ct) (ops : List Oper) (fm : Fm) (s : St) (o : Oper) : Option (Value × Option (TypeId × Value)) := match wantE ops fm o with
  | some false => some (undef, none)
  | some true => (match quiE C fm.t o with
    | some v => some (v, none)
    | none => (match o.op with
      | .load ty x => (evE fm.t x).bind fun p => (ldE C s ty p).bind fun v => some (v, some (ty, p))
      | _ => none))
  | none => none
def pkE (C : Ct) (ops : List Oper) (listed : Array Bool) (fm : Fm) (s : St) : List Nat → Option (Nat × Oper × Value × Option (TypeId × Value))
  | [] => none
  | i :: r => match (bif Region.free .any ops.toArray listed i then (ops[i]?).bind fun o => (qE C ops fm s o).bind fun q => some (i, o, q.1, q.2) else none) with
    | some x => some x
    | none => pkE C ops listed fm s r
theorem pkE_some {C : Ct} {ops : List Oper} {listed : Array Bool} {fm : Fm} {s : St} : ∀ {l : List Nat} {i : Nat} {o : Oper} {v : Value} {q : Option (TypeId × Value)}, pkE C ops listed fm s l = some (i, o, v, q) →
    i ∈ l ∧ Region.free .any ops.toArray listed i = true ∧ ops[i]? = some o ∧ qE C ops fm s o = some (v, q)
  | [], _, _, _, _, h => by simp [pkE] at h
  | i :: r, j, o, v, q, h => by
    simp only [pkE] at h
    split at h
    · rename_i x hx
      cases h
      cases hf : Region.free .any ops.toArray listed i with
      | false => rw [hf] at hx; cases hx
      | true =>
        rw [hf, cond_true] at hx
        obtain ⟨o', h1, h2⟩ := Option.bind_eq_some_iff.1 hx
        obtain ⟨q', h3, h4⟩ := Option.bind_eq_some_iff.1 h2
        cases h4
        exact ⟨List.mem_cons_self, hf, h1, h3⟩
    · obtain ⟨h1, h2⟩ := pkE_some h
      exact ⟨List.mem_cons_of_mem _ h1, h2⟩
def drwE (C : Ct) (K : Cal) (ops : List Oper) : Nat → Bool → Lds → List Nat → Array Bool → Fm → St → Option (Ex × Fm × St)
  | 0, al, LS, rec, listed, fm, s => match Region.ready .any ops.toArray listed with
    | [] => some (.norm, fm, s)
    | _ :: _ => none
  | f + 1, al, LS, rec, listed, fm, s => match Region.ready .any ops.toArray listed with
    | [] => some (.norm, fm, s)
    | i0 :: rs => match pkE C ops listed fm s (i0 :: rs) with
      | some (i, o, v, none) => (fm.put o.dst v).bind fun fm' => drwE C K ops f al LS rec (listed.setIfInBounds i true) fm' s
      | some (i, o, v, some (ty, p)) => (fm.put o.dst v).bind fun fm' => drwE C K ops f true (bif al then (ty, p, v) :: LS else [(ty, p, v)]) (bif al then i :: rec else [i]) (listed.setIfInBounds i true) fm' s
      | none => (match rs with
        | [] => (ops[i0]?).bind fun o => (match wantE ops fm o with
          | some true => (match stpE C K false fm s o with
            | some (.go fm' s') => bif !(al && !waitsAll ops.toArray rec i0) || againE C s' LS then drwE C K ops f (al && !waitsAll ops.toArray rec i0) LS rec (listed.setIfInBounds i0 true) fm' s' else none
            | some (.pan ch s') => (eraE ops fm.t).bind fun t' => some (.pan ch, { fm with t := t' }, s')
            | none => none)
          | _ => none)
        | _ :: _ => none)

section
variable {C : Ct} {w0 : World} {D : Nat → Prop} {N : Nat} {ro : Option Nat} {K : Cal} {ops : List Oper}

theorem drwE_pan : ∀ {f : Nat} {al : Bool} {LS : Lds} {rec : List Nat} {listed : Array Bool} {fm : Fm} {s : St} {x : Ex} {fm' : Fm} {s' : St}, drwE C K ops f al LS rec listed fm s = some (x, fm', s') → x.isPan = true → ∀ o ∈ ops, ∀ d, o.dst = some d → fm'.t.get d = none
  | 0, al, LS, rec, listed, fm, s, x, fm', s', h, hp => by
    simp only [drwE] at h
    split at h
    · cases h; cases hp
    · cases h
  | f + 1, al, LS, rec, listed, fm, s, x, fm', s', h, hp => by
    simp only [drwE] at h
    split at h
    · cases h; cases hp
    · split at h
      · obtain ⟨fm1, _, h2⟩ := Option.bind_eq_some_iff.1 h; exact drwE_pan h2 hp
      · obtain ⟨fm1, _, h2⟩ := Option.bind_eq_some_iff.1 h; exact drwE_pan h2 hp
      · split at h
        · obtain ⟨o, _, h2⟩ := Option.bind_eq_some_iff.1 h
          split at h2
          · split at h2
            · rename_i fm1 s1 _
              cases hq : (!(al && !waitsAll ops.toArray rec _) || againE C s1 LS) with
              | false => rw [hq] at h2; cases h2
              | true => rw [hq, cond_true] at h2; exact drwE_pan h2 hp
            · obtain ⟨t', h3, h4⟩ := Option.bind_eq_some_iff.1 h2
              cases h4
              exact eraE_none h3
            · cases h2
          · cases h2
        · cases h

theorem blind_of {out : Ex × Fm × St} {ρ : Env} {d : Option Nat} (h : out.1.isPan = true → ∀ i, d = some i → out.2.1.t.get i = none) : Blind (PoE C w0 D ρ N out) d := by
  intro c v a w hq
  obtain ⟨τ, h1, h2, h3, h4⟩ := hq
  have hp : out.1.isPan = true := by
    cases hx : out.1 with
    | pan ch => rfl
    | _ => rw [hx] at h1; exact h1.elim
  refine ⟨τ, h1, fun _ => ?_, (fun hn => by rw [hp] at hn; cases hn), h4⟩
  have hX := h2 hp
  cases d with
  | none => exact hX
  | some d =>
    have hnone := h hp d rfl
    refine ⟨hX.nn, by have := hX.size; simpa [Act.put] using this, fun i u hi => ?_, by have := hX.ds; simpa [Act.put] using this⟩
    obtain ⟨u', g1, g2⟩ := hX.kn i u hi
    refine ⟨u', g1, ?_⟩
    have hne : i ≠ d := fun he => by rw [he, hnone] at hi; cases hi
    rw [← g2]
    simp only [Act.put, Array.getD_eq_getD_getElem?]
    rw [Array.getElem?_setIfInBounds_ne (Ne.symm hne)]

theorem anyR_false {P : Program} {n : Nat} {ops : Array Oper} {Q : Post} {S : World → Prop} {rec rec' : List Nat} : ∀ {fuel : Nat} {listed : Array Bool} {a : Act} {w : World}, AnyR ro n P ops Q S rec fuel false listed a w → AnyR ro n P ops Q S rec' fuel false listed a w
  | 0, _, _, _, h => h
  | fuel + 1, _, _, _, h => ⟨h.1, fun i hi => wpOpIn_mono (fun a' w' h' => ⟨(fun hh => by cases hh), anyR_false h'.2⟩) (h.2 i hi)⟩
theorem drwE_spec (hK : CalOk C K) (hns : noDS ops.toArray = true) {out : Ex × Fm × St} : ∀ {f : Nat} {al : Bool} {LS LA : Lds} {rec : List Nat} {listed : Array Bool} {ρ : Env} {fm : Fm} {s : St} {a : Act} {w : World}, Fr ρ N fm a → Sr C w0 D ρ s w → LR ρ LS LA → (al = true → SL C.P LA w) →
    drwE C K ops f al LS rec listed fm s = some out → AnyR ro 0 C.P ops.toArray (PoE C w0 D ρ N out) (SL C.P LA) rec f al listed a w
  | 0, al, LS, LA, rec, listed, ρ, fm, s, a, w, h, H, hL, hS, hb => by
    simp only [drwE] at hb
    split at hb
    · rename_i hr
      cases hb
      exact ⟨hr, PoE.of rfl trivial h H⟩
    · cases hb
  | f + 1, al, LS, LA, rec, listed, ρ, fm, s, a, w, h, H, hL, hS, hb => by
    have hb0 := hb
    simp only [drwE] at hb
    split at hb
    · rename_i hr
      cases hb
      exact ⟨fun _ => PoE.of rfl trivial h H, (fun i hi => by rw [hr] at hi; cases hi)⟩
    · rename_i i0 rs hr
      have hblind : ∀ (i : Nat) (o : Oper), ops[i]? = some o → Blind (PoE C w0 D ρ N out) o.dst := fun i o ho => by
        refine blind_of (fun hp d hd => ?_)
        obtain ⟨x, fm', s'⟩ := out
        exact drwE_pan hb0 hp o (List.mem_of_getElem? ho) d hd
      split at hb
      · -- taken first, needs no memory
        rename_i i o v hpk
        obtain ⟨h1, h2, h3, h4⟩ := pkE_some hpk
        obtain ⟨fm', h5, h6⟩ := Option.bind_eq_some_iff.1 hb
        have ho' : ops.toArray[i]? = some o := by simpa using h3
        have key : ∃ u, conc ρ v = some u ∧ YieldsIf C.P ops.toArray (fun _ => True) o u a := by
          unfold qE at h4
          split at h4
          · rename_i hw
            cases h4
            exact ⟨undef, conc_undef ρ, .inr ⟨wantE_spec h hw, rfl⟩⟩
          · rename_i hw
            split at h4
            · rename_i v' hq
              cases h4
              obtain ⟨u, g1, g2⟩ := quiE_spec h hq
              exact ⟨u, g1, .inl ⟨wantE_spec h hw, fun w _ => g2 w⟩⟩
            · split at h4
              · obtain ⟨p, _, h7⟩ := Option.bind_eq_some_iff.1 h4
                obtain ⟨v', _, h8⟩ := Option.bind_eq_some_iff.1 h7
                cases h8
              · cases h4
          · cases h4
        obtain ⟨u, hu, hy⟩ := key
        refine AnyR.first (T := fun _ => True) ho' hns (hblind i o h3) f al listed a w (.inl fun _ => trivial) (Region.free_spec ho' h2) (by rw [hr]; exact h1) hy trivial hS ?_
        exact drwE_spec hK hns (h.put hu h5) H hL hS h6
      · -- a load taken first
        rename_i i o v ty p hpk
        obtain ⟨h1, h2, h3, h4⟩ := pkE_some hpk
        obtain ⟨fm', h5, h6⟩ := Option.bind_eq_some_iff.1 hb
        have ho' : ops.toArray[i]? = some o := by simpa using h3
        have key : ∃ u p', conc ρ v = some u ∧ conc ρ p = some p' ∧ Region.wanted o (yielded ops.toArray a.tmps) = true ∧ (Instr.loadAt ty p').run C.P w = .ok u w ∧ ∀ w', (Instr.loadAt ty p').run C.P w' = .ok u w' → (execOp a.eval o).run C.P w' = .ok (.value u) w' := by
          unfold qE at h4
          split at h4
          · cases h4
          · rename_i hw
            split at h4
            · cases h4
            · split at h4
              · rename_i ty' x hop
                obtain ⟨p0, hp0, h7⟩ := Option.bind_eq_some_iff.1 h4
                obtain ⟨v', hv', h8⟩ := Option.bind_eq_some_iff.1 h7
                cases h8
                obtain ⟨p', hp', hep⟩ := evE_spec h hp0
                obtain ⟨u, g1, g2⟩ := ldE_run H hp' hv'
                refine ⟨u, p', g1, hp', wantE_spec h hw, g2, fun w' hl => ?_⟩
                obtain ⟨dst, op, tyo, pp, af, g⟩ := o
                simp only at hop; subst hop
                simp only [execOp, hep]
                rw [Sem.run_bind, hl]; rfl
              · cases h4
          · cases h4
        obtain ⟨u, p', hu, hp', hw, hl, hx⟩ := key
        cases al with
        | true =>
          rw [cond_true, cond_true] at h6
          have hS2 : SL C.P ((ty, p', u) :: LA) w := fun x hx' => by
            rcases List.mem_cons.1 hx' with rfl | hx'
            · exact hl
            · exact hS rfl x hx'
          refine AnyR.weaken (S := SL C.P ((ty, p', u) :: LA)) (rec := i :: rec) (fun j hj => List.mem_cons_of_mem _ hj) (f + 1) true true listed a w (fun _ => ⟨rfl, fun w hw x hx => hw x (List.mem_cons_of_mem _ hx)⟩) ?_
          refine AnyR.first (T := SL C.P ((ty, p', u) :: LA)) ho' hns (hblind i o h3) f true listed a w (.inr ⟨List.mem_cons_self, rfl, fun _ h => h⟩) (Region.free_spec ho' h2) (by rw [hr]; exact h1) (.inl ⟨hw, fun w' hw' => hx w' (hw' _ List.mem_cons_self)⟩) hS2 (fun _ => hS2) ?_
          exact drwE_spec (LS := (ty, p, v) :: LS) hK hns (h.put hu h5) H ⟨rfl, hp', hu, hL⟩ (fun _ => hS2) h6
        | false =>
          rw [cond_false, cond_false] at h6
          have hS2 : SL C.P [(ty, p', u)] w := fun x hx' => by
            rcases List.mem_cons.1 hx' with rfl | hx'
            · exact hl
            · cases hx'
          have H2 : AnyR ro 0 C.P ops.toArray (PoE C w0 D ρ N out) (SL C.P [(ty, p', u)]) [i] (f + 1) true listed a w := by
            refine AnyR.first (T := SL C.P [(ty, p', u)]) ho' hns (hblind i o h3) f true listed a w (.inr ⟨List.mem_cons_self, rfl, fun _ h => h⟩) (Region.free_spec ho' h2) (by rw [hr]; exact h1) (.inl ⟨hw, fun w' hw' => hx w' (hw' _ List.mem_cons_self)⟩) hS2 (fun _ => hS2) ?_
            exact drwE_spec (LS := [(ty, p, v)]) hK hns (h.put hu h5) H ⟨rfl, hp', hu, trivial⟩ (fun _ => hS2) h6
          have H3 : AnyR ro 0 C.P ops.toArray (PoE C w0 D ρ N out) (SL C.P LA) [] (f + 1) false listed a w := AnyR.weaken (fun j hj => by cases hj) (f + 1) true false listed a w (fun hh => by cases hh) H2
          exact anyR_false H3
      · split at hb
        · obtain ⟨o, ho, hb⟩ := Option.bind_eq_some_iff.1 hb
          have ho' : ops.toArray[i0]? = some o := by simpa using ho
          have one : ∀ {Q' : Post}, wpOpIn (Wk.Fr ro) 0 C.P ops.toArray Q' i0 (fun a' w' => ((al && !waitsAll ops.toArray rec i0) = true → SL C.P LA w') ∧ AnyR ro 0 C.P ops.toArray Q' (SL C.P LA) rec f (al && !waitsAll ops.toArray rec i0) (listed.setIfInBounds i0 true) a' w') a w → AnyR ro 0 C.P ops.toArray Q' (SL C.P LA) rec (f + 1) al listed a w := fun hh =>
            ⟨(fun h0 => by rw [hr] at h0; cases h0), (fun j hj => by
              rw [hr] at hj
              have : j = i0 := by simpa using hj
              subst this; exact hh)⟩
          split at hb
          · rename_i hw
            have hw' := wantE_spec h hw
            refine one ?_
            unfold wpOpIn
            simp only [ho', hw', if_true]
            split at hb
            · rename_i fm' s' hs
              cases hq : (!(al && !waitsAll ops.toArray rec i0) || againE C s' LS) with
              | false => rw [hq] at hb; cases hb
              | true =>
                rw [hq, cond_true] at hb
                refine stpE_spec hK (by intro hh; cases hh) h H hs (fun τ a' w' h' H' => ?_)
                have hS' : (al && !waitsAll ops.toArray rec i0) = true → SL C.P LA w' := fun hal => by
                  rw [hal] at hq
                  exact againE_spec H' (hL.mono τ) (by simpa using hq)
                exact ⟨hS', AnyR.monoQ (fun e a w => PoE.more) (fun ⟨a, w, hq⟩ => ⟨a, w, hq.more⟩) _ _ _ _ _ (drwE_spec hK hns h' H' (hL.mono τ) hS' hb)⟩
            · rename_i ch s' hs
              obtain ⟨t', h3, h4⟩ := Option.bind_eq_some_iff.1 hb
              cases h4
              refine stpE_spec hK (by intro hh; cases hh) h H hs (fun τ w' ch' hc H' => ?_)
              refine PoE.pan hc ?_ H'
              have hx := (h.mono τ).x
              exact ⟨hx.nn, hx.size, fun i v hi => hx.kn i v (eraE_sub h3 i v hi), hx.ds⟩
            · cases hb
          · cases hb
        · cases hb
end
end Go.Ev
