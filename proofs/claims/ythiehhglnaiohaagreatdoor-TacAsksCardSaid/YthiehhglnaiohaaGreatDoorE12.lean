/-
  One operation, whatever it is.
-/
import Derived.Test.YthiehhglnaiohaaGreatDoorE11
namespace Go.Ev
open Go.Wk
set_option linter.unusedVariables false
set_option linter.unusedSimpArgs false

/-! ### Functions without a body -/
section
variable {C : Ct} {w0 : World} {D : Nat → Prop} {ρ : Env} {s s' : St} {w : World} {N : Nat} {fm : Fm} {a : Act}
theorem digits_size : ∀ (n t : Nat) (acc : Array Value), (Extern.BytealgMakeNoZero.digits n t acc).size = acc.size + n
  | 0, t, acc => rfl
  | n + 1, t, acc => by
    simp only [Extern.BytealgMakeNoZero.digits]
    rw [digits_size n]; simp; omega
def byteSl (C : Ct) : Option (TypeId × Ti) := match C.tt.get C.bt with
  | some bi => (match bi.k with
    | .slice e => (C.tt.get e).bind fun te => bif Nat.beq te.sz 1 then some (e, te) else none
    | _ => none)
  | none => none
def xE (C : Ct) (s : St) : Nat → List Value → Option (Value × St)
  | 0, [x] => some (x, s)
  | 1, [.string q, .int .u8 c] => some (.int .i64 (Go.Lib.indexByte q.data.toList c.toNat.toUInt8), s)
  | 2, [.string q, .int .u8 c] => some (.int .i64 (Go.Lib.countByte q.data.toList c.toNat.toUInt8 : Nat), s)
  | 3, [.int .i64 n] => bif decide (0 ≤ n) && decide (n ≤ 4294967296) then (byteSl C).bind fun q => growE C s q.1 n.toNat [] else none
  | _, _ => none
theorem byteSl_spec {e : TypeId} {te : Ti} (h : byteSl C = some (e, te)) : C.P.underlying C.bt = some (.slice e) ∧ C.tt.get e = some te ∧ te.sz = 1 := by
  unfold byteSl at h
  split at h
  · rename_i bi hb
    obtain ⟨k, z, sz, by'⟩ := bi
    cases k with
    | slice e' =>
      simp only at h
      obtain ⟨te', h1, h2⟩ := Option.bind_eq_some_iff.1 h
      cases hq : Nat.beq te'.sz 1 with
      | false => rw [hq] at h2; cases h2
      | true => rw [hq, cond_true] at h2; cases h2; exact ⟨tk_slice (C.okT _ _ hb), h1, Nat.eq_of_beq_eq_true hq⟩
    | _ => cases h
  · cases h
theorem xE_spec (H : Sr C w0 D ρ s w) {c : Nat} {args us : List Value} {r : Value} (ha : concs ρ args = some us) (h : xE C s c args = some (r, s')) :
    ∃ τ u w', (xrow C.bt c us.toArray).run C.P w = .ok u w' ∧ conc (ρ ++ τ) r = some u ∧ Sr C w0 D (ρ ++ τ) s' w' := by
  unfold xE at h
  split at h
  · cases h
    obtain ⟨u, t, h1, h2, rfl⟩ := concs_cons.1 ha
    rw [concs_nil] at h2; cases h2
    exact ⟨[], u, w, rfl, by rw [List.append_nil]; exact h1, by rw [List.append_nil]; exact H⟩
  · cases h
    obtain ⟨u, t, h1, h2, rfl⟩ := concs_cons.1 ha
    obtain ⟨u2, t2, h3, h4, rfl⟩ := concs_cons.1 h2
    rw [concs_nil] at h4; cases h4
    simp only [conc, Option.some.injEq] at h1 h3; subst h1; subst h3
    rename_i q c
    have hr : (xrow C.bt 1 #[.string q, .int .u8 c]).run C.P w = _ := Go.Lib.run_indexByteString q c w
    exact ⟨[], _, w, hr, conc_int _ _ _, by rw [List.append_nil]; exact H⟩
  · cases h
    obtain ⟨u, t, h1, h2, rfl⟩ := concs_cons.1 ha
    obtain ⟨u2, t2, h3, h4, rfl⟩ := concs_cons.1 h2
    rw [concs_nil] at h4; cases h4
    simp only [conc, Option.some.injEq] at h1 h3; subst h1; subst h3
    rename_i q c
    have hr : (xrow C.bt 2 #[.string q, .int .u8 c]).run C.P w = _ := Go.Lib.run_countString q c w
    exact ⟨[], _, w, hr, conc_int _ _ _, by rw [List.append_nil]; exact H⟩
  · rename_i n
    obtain ⟨u, t, h1, h2, rfl⟩ := concs_cons.1 ha
    rw [concs_nil] at h2; cases h2
    simp only [conc, Option.some.injEq] at h1; subst h1
    cases hq : (decide (0 ≤ n) && decide (n ≤ 4294967296)) with
    | false => rw [hq] at h; cases h
    | true =>
      rw [hq, cond_true] at h
      simp only [Bool.and_eq_true, decide_eq_true_eq] at hq
      obtain ⟨⟨e, te⟩, hbs, hg⟩ := Option.bind_eq_some_iff.1 h
      obtain ⟨hu, hte, hsz⟩ := byteSl_spec hbs
      let w2 : World := { w with drawn := w.drawn + 1 + 1 }
      have H2 : Sr C w0 D ρ s w2 := H.drew.drew
      let cap := (Question.appendCap n.toNat 0 e).cut (w.tape w.drawn (.appendCap n.toNat 0 e))
      let bytes := (Question.extern "internal/bytealg.MakeNoZero.bytes" 0).cut (w.tape (w.drawn + 1) (.extern "internal/bytealg.MakeNoZero.bytes" 0))
      have hcap : n.toNat ≤ cap := by simp [cap, Question.cut]
      have hsp : ((Extern.BytealgMakeNoZero.digits cap bytes #[]).toList).length = cap * te.sz := by
        rw [Array.length_toList, digits_size, hsz]; simp
      obtain ⟨g1, g2⟩ := growE_alloc (w := w2) (cap := cap) (sp := (Extern.BytealgMakeNoZero.digits cap bytes #[]).toList) H2 hte (concs_nil ρ) hcap (by rw [List.nil_append]; exact hsp) hg
      refine ⟨_, _, _, ?_, g1, g2⟩
      have h0 : ¬ n < 0 := by omega
      have h48 : ¬ (281474976710656 : Int) < n := by omega
      show (Extern.BytealgMakeNoZero.makeNoZero #[] #[C.bt] #[.int .i64 n]).run C.P w = _
      have hroom : ∀ c w, (askRoom c).run C.P w = .ok () w := fun c w => by unfold askRoom; split <;> rfl
      have hdef : Extern.BytealgMakeNoZero.makeNoZero #[] #[C.bt] #[.int .i64 n] = (do
        let .slice elem ← underlying C.bt | stuck "bytealg.MakeNoZero: slice type expected"
        if n < 0 || n > 2 ^ 48 then runtimePanic (.error "makeslice: len out of range")
        let cap ← choose (.appendCap n.toNat 0 elem)
        askRoom cap
        let bytes ← choose (.extern "internal/bytealg.MakeNoZero.bytes" 0)
        let a ← newRow elem (Extern.BytealgMakeNoZero.digits cap bytes #[])
        pure (.slice (some a) n.toNat cap)) := rfl
      rw [hdef]
      simp [run_underlying hu, h0, h48, hroom, Question.forced, newRow, w2, cap, bytes]
      rfl
  · cases h

/-! ### One operation -/
inductive OR where
  | val (v : Value) (s : St)
  | skip (s : St)
  | ent (f : FuncId) (args : List Value)
  | dfr (d : Deferred)
  | pan (v : Value)
  | rnd (l : Nat) (args : List Value)

def pairE : Option (Value × St) → Option OR
  | some (v, s) => some (.val v s)
  | none => none
def valE (s : St) : Option Value → Option OR
  | some v => some (.val v s)
  | none => none
def skipE : Option St → Option OR
  | some s => some (.skip s)
  | none => none
theorem pairE_some {q : Option (Value × St)} {r : OR} (h : pairE q = some r) : ∃ v s, q = some (v, s) ∧ r = .val v s := by
  unfold pairE at h
  split at h
  · cases h; exact ⟨_, _, rfl, rfl⟩
  · cases h
theorem valE_some {q : Option Value} {s : St} {r : OR} (h : valE s q = some r) : ∃ v, q = some v ∧ r = .val v s := by
  unfold valE at h
  split at h
  · cases h; exact ⟨_, rfl, rfl⟩
  · cases h
theorem skipE_some {q : Option St} {r : OR} (h : skipE q = some r) : ∃ s, q = some s ∧ r = .skip s := by
  unfold skipE at h
  split at h
  · cases h; exact ⟨_, rfl, rfl⟩
  · cases h

/-- A call of a function value. -/
def calE (C : Ct) (s : St) (args : List Value) : Value → Option OR
  | .func (.func k) l m => (match C.xt.get k with
    | some c => pairE (xE C s c (l.toList ++ args ++ m.toList))
    | none => some (.ent k (l.toList ++ args ++ m.toList)))
  | .func (.yield l) ⟨[]⟩ ⟨[]⟩ => some (.rnd l args)
  | _ => none
def dfrE (args : List Value) : Value → Option OR
  | .func (.func k) l m => some (.dfr ⟨.fn (.func k) m, ⟨l.toList ++ args⟩⟩)
  | _ => none
def panE : Value → Option OR
  | .iface t v => some (.pan (.iface t v))
  | _ => none
def oorE : Option OR → Option OR → Option OR
  | some v, _ => some v
  | none, q => q
theorem oorE_some {q r : Option OR} {v : OR} (h : oorE q r = some v) : q = some v ∨ r = some v := by
  cases q with
  | some u => exact .inl h
  | none => exact .inr h
def memE (C : Ct) (t : Tr Value) (s : St) : Op → Option OR
  | .load ty x => valE s ((evE t x).bind (ldE C s ty))
  | .store ty x y => skipE ((evE t x).bind fun q => (evE t y).bind fun v => stE C s ty v q)
  | .box e x => pairE ((evE t x).bind (boxE s e))
  | .alloc e => pairE (allE C s e)
  | .buildSlice ty len parts => pairE (litE C t s ty len parts)
  | .makeSlice ty x y => pairE ((evE t x).bind fun v => (evE t y).bind fun q => mksE C s ty v q)
  | .makeMap _ none => pairE (mkmE s)
  | .build ty parts => valE s (abE C t ty parts)
  | .lookup ty x y ok => valE s ((evE t x).bind fun m => (evE t y).bind fun k => lkE C s ty ok m k)
  | .mapUpdate ty x y z => skipE ((evE t x).bind fun m => (evE t y).bind fun k => (evE t z).bind fun v => mupE C s ty m k v)
  | .insert ty x y z => skipE ((evE t x).bind fun m => (evE t y).bind fun k => (evE t z).bind fun v => mupE C s ty m k v)
  | .convert src dst x => (evE t x).bind fun v => oorE (pairE (sbtE C s src dst v)) (valE s (orE (bstE C s src dst v) (uptE C s src dst v)))
  | .call ⟨.builtin .append, ⟨[x, y]⟩, ⟨[ty, u]⟩⟩ => pairE ((evE t x).bind fun v => (evE t y).bind fun q => appE C s ty u v q)
  | .call ⟨.builtin .copy, ⟨[x, y]⟩, ⟨[ty, u]⟩⟩ => pairE ((evE t x).bind fun v => (evE t y).bind fun q => cpyE C s ty v q)
  | .call ⟨.builtin .unsafeString, ⟨[x, y]⟩, ⟨[ty, u]⟩⟩ => pairE ((evE t x).bind fun v => (evE t y).bind fun q => ustE C s ty v q)
  | .call ⟨.builtin .len, ⟨[x]⟩, ⟨[ty]⟩⟩ => valE s ((evE t x).bind (lnmE C s ty))
  | .call ⟨.value f, xs, _⟩ => (evE t f).bind fun v => (evEs t xs.toList).bind fun args => calE C s args v
  | .defer ⟨.value f, xs, _⟩ => (evE t f).bind fun v => (evEs t xs.toList).bind fun args => dfrE args v
  | .panic x => (evE t x).bind panE
  | _ => none

/-- What comes of it in the world. -/
def OpS (C : Ct) (w0 : World) (D : Nat → Prop) (ρ : Env) (s : St) (w : World) (a : Act) (o : Oper) : OR → Prop
  | .val v s' => Vm C w0 D ρ w a o v s'
  | .skip s' => Um C w0 D ρ w a o s'
  | .ent f args => ∃ us, concs ρ args = some us ∧ ((C.ft.get f).isSome = true → (∀ fn, C.ft.get f = some fn → fn.body.isSome = true) → (execOp a.eval o).run C.P w = .ok (.enter f us.toArray) w)
  | .dfr d => ∃ d', concD ρ d = some d' ∧ (∃ c, o.op = .defer c) ∧ (execOp a.eval o).run C.P w = .ok (.defer d') w
  | .pan v => ∃ u, conc ρ v = some u ∧ (∃ x, o.op = .panic x) ∧ (execOp a.eval o).run C.P w = .halt (.panic u) w
  | .rnd l args => ∃ l' us, cad ρ l = some l' ∧ concs ρ args = some us ∧ execOp a.eval o = (do invoke (.fn (.yield l') #[]) us.toArray)

section
variable {dst : Option Tmp} {ty : TypeId} {p : String} {af : Array Edge} {g : Option (Nat × Bool)}
theorem callFunc_enter {k : FuncId} {fn : Func} (h : C.ft.get k = some fn) (hb : fn.body.isSome = true) (args : Array Value) (w : World) : (callFunc k args).run C.P w = .ok (.enter k args) w := by
  obtain ⟨h1, h2⟩ := C.okF k fn h
  have hn : fn.body.isNone = false := by cases hbb : fn.body <;> simp [hbb] at hb ⊢
  have hp : (program).run C.P w = .ok C.s.P w := rfl
  unfold callFunc
  rw [Sem.run_bind, hp, Result.andThen_ok]
  simp only [h1, h2, hn, Bool.false_eq_true, if_false]
  rfl
theorem calE_spec {f : Operand} {xs : Array Operand} {ats : Array TypeId} {v : Value} {args : List Value} {r : OR} (h : Fr ρ N fm a) (H : Sr C w0 D ρ s w) (hf : evE fm.t f = some v) (hx : evEs fm.t xs.toList = some args) (hb : calE C s args v = some r) :
    OpS C w0 D ρ s w a ⟨dst, .call ⟨.value f, xs, ats⟩, ty, p, af, g⟩ r := by
  obtain ⟨v', hv, he⟩ := evE_spec h hf
  have hxs := evEs_spec h hx
  have hmap : xs.map a.eval = ⟨xs.toList.map a.eval⟩ := by apply Array.ext'; simp
  unfold calE at hb
  split at hb
  · rename_i k l m
    simp only [conc, cfn] at hv
    split at hv
    · rename_i fn' l' m' hfn hl hm
      cases hfn; cases hv
      have hall : concs ρ (l.toList ++ args ++ m.toList) = some (l'.toList ++ xs.toList.map a.eval ++ m'.toList) := concs_app (concs_app (concA_iff.1 hl) hxs) (concA_iff.1 hm)
      have hex : execOp a.eval ⟨dst, .call ⟨.value f, xs, ats⟩, ty, p, af, g⟩ = callFunc k (l'.toList ++ xs.toList.map a.eval ++ m'.toList).toArray := by
        have e : (l'.toList ++ xs.toList.map a.eval ++ m'.toList).toArray = l' ++ xs.map a.eval ++ m' := by apply Array.ext'; simp
        rw [e]
        simp only [execOp, resolve, he, Deferred.ofValue]
        rfl
      split at hb
      · rename_i c hc
        obtain ⟨u, s1, h1, rfl⟩ := pairE_some hb
        obtain ⟨τ, u', w', g1, g2, g3⟩ := xE_spec H hall h1
        refine ⟨τ, u', w', ?_, g2, g3⟩
        rw [hex, C.okX k c hc, g1]; rfl
      · cases hb
        refine ⟨_, hall, fun h1 h2 => ?_⟩
        obtain ⟨fn, hfn⟩ := Option.isSome_iff_exists.1 h1
        rw [hex]
        exact callFunc_enter hfn (h2 fn hfn) _ w
    · cases hv
  · rename_i l
    cases hb
    simp only [conc, cfn, concA, concs, Option.map_some] at hv
    split at hv
    · rename_i fn' l' m' hfn hl hm
      simp only [Option.map_eq_some_iff] at hfn
      obtain ⟨l2, hl2, rfl⟩ := hfn
      cases hl; cases hm; cases hv
      refine ⟨l2, _, hl2, hxs, ?_⟩
      simp only [execOp, resolve, he, Deferred.ofValue, hmap]
      have e : (#[] : Array Value) ++ (⟨xs.toList.map a.eval⟩ : Array Value) = (xs.toList.map a.eval).toArray := by simp
      show invoke (.fn (.yield l2) #[]) (#[] ++ (⟨xs.toList.map a.eval⟩ : Array Value)) = _
      rw [e]
    · cases hv
  · cases hb
theorem dfrE_spec {f : Operand} {xs : Array Operand} {ats : Array TypeId} {v : Value} {args : List Value} {r : OR} (h : Fr ρ N fm a) (H : Sr C w0 D ρ s w) (hf : evE fm.t f = some v) (hx : evEs fm.t xs.toList = some args) (hb : dfrE args v = some r) :
    OpS C w0 D ρ s w a ⟨dst, .defer ⟨.value f, xs, ats⟩, ty, p, af, g⟩ r := by
  obtain ⟨v', hv, he⟩ := evE_spec h hf
  have hxs := evEs_spec h hx
  unfold dfrE at hb
  split at hb
  · rename_i k l m
    cases hb
    simp only [conc, cfn] at hv
    split at hv
    · rename_i fn' l' m' hfn hl hm
      cases hfn; cases hv
      refine ⟨⟨.fn (.func k) m', ⟨l'.toList ++ xs.toList.map a.eval⟩⟩, ?_, ⟨_, rfl⟩, ?_⟩
      · have := concs_app (concA_iff.1 hl) hxs
        simp only [concD, cfn, hm, concA_mk.2 (by exact this)]
      · simp only [execOp, resolve, he, Deferred.ofValue]
        have e : (⟨l'.toList ++ xs.toList.map a.eval⟩ : Array Value) = l' ++ xs.map a.eval := by apply Array.ext'; simp
        rw [e]; rfl
    · cases hv
  · cases hb
theorem panE_spec {x : Operand} {v : Value} {r : OR} (h : Fr ρ N fm a) (H : Sr C w0 D ρ s w) (hx : evE fm.t x = some v) (hb : panE v = some r) : OpS C w0 D ρ s w a ⟨dst, .panic x, ty, p, af, g⟩ r := by
  obtain ⟨v', hv, he⟩ := evE_spec h hx
  unfold panE at hb
  split at hb
  · cases hb
    have hv0 := hv
    simp only [conc, Option.map_eq_some_iff] at hv
    obtain ⟨u, hu, rfl⟩ := hv
    refine ⟨_, hv0, ⟨_, rfl⟩, ?_⟩
    simp only [execOp, he]
    rfl
  · cases hb
theorem memE_spec {op : Op} {r : OR} (h : Fr ρ N fm a) (H : Sr C w0 D ρ s w) (hb : memE C fm.t s op = some r) : OpS C w0 D ρ s w a ⟨dst, op, ty, p, af, g⟩ r := by
  unfold memE at hb
  split at hb
  · obtain ⟨v, h1, rfl⟩ := valE_some hb
    obtain ⟨u, h2, h3⟩ := Option.bind_eq_some_iff.1 h1; exact vm_load h H h2 h3
  · obtain ⟨v, h1, rfl⟩ := skipE_some hb
    obtain ⟨u, h2, h3⟩ := Option.bind_eq_some_iff.1 h1
    obtain ⟨u', h4, h5⟩ := Option.bind_eq_some_iff.1 h3; exact um_store h H h2 h4 h5
  · obtain ⟨v, s1, h1, rfl⟩ := pairE_some hb
    obtain ⟨u, h2, h3⟩ := Option.bind_eq_some_iff.1 h1; exact vm_box h H h2 h3
  · obtain ⟨v, s1, h1, rfl⟩ := pairE_some hb; exact vm_alloc H h1
  · obtain ⟨v, s1, h1, rfl⟩ := pairE_some hb; exact vm_lit h H h1
  · obtain ⟨v, s1, h1, rfl⟩ := pairE_some hb
    obtain ⟨u, h2, h3⟩ := Option.bind_eq_some_iff.1 h1
    obtain ⟨u', h4, h5⟩ := Option.bind_eq_some_iff.1 h3; exact vm_mks h H h2 h4 h5
  · obtain ⟨v, s1, h1, rfl⟩ := pairE_some hb; exact vm_mkm H h1
  · obtain ⟨v, h1, rfl⟩ := valE_some hb
    obtain ⟨u, q1, q2⟩ := gv_ab h h1
    exact ⟨[], u, w, q2 w, by rw [List.append_nil]; exact q1, by rw [List.append_nil]; exact H⟩
  · obtain ⟨v, h1, rfl⟩ := valE_some hb
    obtain ⟨u, h2, h3⟩ := Option.bind_eq_some_iff.1 h1
    obtain ⟨u', h4, h5⟩ := Option.bind_eq_some_iff.1 h3; exact vm_lk h H h2 h4 h5
  · obtain ⟨v, h1, rfl⟩ := skipE_some hb
    obtain ⟨u, h2, h3⟩ := Option.bind_eq_some_iff.1 h1
    obtain ⟨u', h4, h5⟩ := Option.bind_eq_some_iff.1 h3
    obtain ⟨u'', h6, h7⟩ := Option.bind_eq_some_iff.1 h5; exact um_mup h H h2 h4 h6 h7
  · obtain ⟨v, h1, rfl⟩ := skipE_some hb
    obtain ⟨u, h2, h3⟩ := Option.bind_eq_some_iff.1 h1
    obtain ⟨u', h4, h5⟩ := Option.bind_eq_some_iff.1 h3
    obtain ⟨u'', h6, h7⟩ := Option.bind_eq_some_iff.1 h5; exact um_ins h H h2 h4 h6 h7
  · obtain ⟨u, h2, h3⟩ := Option.bind_eq_some_iff.1 hb
    rcases oorE_some h3 with h5 | h5
    · obtain ⟨v, s1, h1, rfl⟩ := pairE_some h5
      exact vm_sbt h H h2 h1
    · obtain ⟨v, h1, rfl⟩ := valE_some h5
      rcases orE_some h1 with h4 | h4
      · exact vm_bst h H h2 h4
      · exact vm_upt h H h2 h4
  · obtain ⟨v, s1, h1, rfl⟩ := pairE_some hb
    obtain ⟨u, h2, h3⟩ := Option.bind_eq_some_iff.1 h1
    obtain ⟨u', h4, h5⟩ := Option.bind_eq_some_iff.1 h3; exact vm_app h H h2 h4 h5
  · obtain ⟨v, s1, h1, rfl⟩ := pairE_some hb
    obtain ⟨u, h2, h3⟩ := Option.bind_eq_some_iff.1 h1
    obtain ⟨u', h4, h5⟩ := Option.bind_eq_some_iff.1 h3; exact vm_cpy h H h2 h4 h5
  · obtain ⟨v, s1, h1, rfl⟩ := pairE_some hb
    obtain ⟨u, h2, h3⟩ := Option.bind_eq_some_iff.1 h1
    obtain ⟨u', h4, h5⟩ := Option.bind_eq_some_iff.1 h3; exact vm_ust h H h2 h4 h5
  · obtain ⟨v, h1, rfl⟩ := valE_some hb
    obtain ⟨u, h2, h3⟩ := Option.bind_eq_some_iff.1 h1; exact vm_lnm h H h2 h3
  · obtain ⟨v, h2, h3⟩ := Option.bind_eq_some_iff.1 hb
    obtain ⟨u', h4, h5⟩ := Option.bind_eq_some_iff.1 h3; exact calE_spec h H h2 h4 h5
  · obtain ⟨v, h2, h3⟩ := Option.bind_eq_some_iff.1 hb
    obtain ⟨u', h4, h5⟩ := Option.bind_eq_some_iff.1 h3; exact dfrE_spec h H h2 h4 h5
  · obtain ⟨v, h2, h3⟩ := Option.bind_eq_some_iff.1 hb; exact panE_spec h H h2 h3
  · cases hb

/-- Pure ones first; then memory; last the model's own text. -/
def fbOk : Op → Bool
  | .binOp .. => true
  | .unOp .. => true
  | .convert .. => true
  | .typeAssert .. => true
  | .call ⟨.builtin _, _, _⟩ => true
  | _ => false
def samO (C : Ct) (t : Tr Value) : Op → Option Value
  | .binOp op ty x y _ => (evE t x).bind fun v => (evE t y).bind fun w => samE C op ty v w
  | _ => none
theorem samO_spec {op : Op} {v : Value} (h : Fr ρ N fm a) (hb : samO C fm.t op = some v) : Gv C ρ a ⟨dst, op, ty, p, af, g⟩ v := by
  unfold samO at hb
  split at hb
  · obtain ⟨u, h2, h3⟩ := Option.bind_eq_some_iff.1 hb
    obtain ⟨u', h4, h5⟩ := Option.bind_eq_some_iff.1 h3; exact gv_sam h h2 h4 h5
  · cases hb
/-- What needs no memory. -/
def quiE (C : Ct) (t : Tr Value) (o : Oper) : Option Value := orE (fstE C t o.op) (orE (samO C t o.op) (bif fbOk o.op then fbE C t o else none))
theorem quiE_spec {o : Oper} {v : Value} (h : Fr ρ N fm a) (hb : quiE C fm.t o = some v) : Gv C ρ a o v := by
  rcases orE_some hb with h1 | h1
  · obtain ⟨dst, op, ty, p, af, g⟩ := o; exact fstE_spec h h1
  · rcases orE_some h1 with h1 | h1
    · obtain ⟨dst, op, ty, p, af, g⟩ := o; exact samO_spec h h1
    · cases hq : fbOk o.op with
      | false => rw [hq] at h1; cases h1
      | true => rw [hq, cond_true] at h1; exact fbE_spec h h1
def evO' (C : Ct) (t : Tr Value) (s : St) (o : Oper) : Option OR := match fstE C t o.op with
  | some v => some (.val v s)
  | none => (match memE C t s o.op with
    | some r => some r
    | none => valE s (orE (samO C t o.op) (bif fbOk o.op then fbE C t o else none)))
theorem Gv.vm {o : Oper} {v : Value} (H : Sr C w0 D ρ s w) (h : Gv C ρ a o v) : Vm C w0 D ρ w a o v s := by
  obtain ⟨u, h1, h2⟩ := h
  exact ⟨[], u, w, h2 w, by rw [List.append_nil]; exact h1, by rw [List.append_nil]; exact H⟩
theorem evO'_spec {o : Oper} {r : OR} (h : Fr ρ N fm a) (H : Sr C w0 D ρ s w) (hb : evO' C fm.t s o = some r) : OpS C w0 D ρ s w a o r := by
  unfold evO' at hb
  split at hb
  · rename_i v hv
    cases hb
    obtain ⟨dst, op, ty, p, af, g⟩ := o
    exact (fstE_spec h hv).vm H
  · split at hb
    · rename_i r' hm
      cases hb
      obtain ⟨dst, op, ty, p, af, g⟩ := o
      exact memE_spec h H hm
    · obtain ⟨v, h1, rfl⟩ := valE_some hb
      refine Gv.vm H (quiE_spec h ?_)
      rename_i hf _ _
      unfold quiE
      rw [hf]; exact h1
end
end
end Go.Ev
