import Derived.Test.YtbdbjamebjbhnaaLFun
import Derived.KernelRfl
set_option linter.all false
/- THE CHECKS THAT A PROGRAM'S FUNCTIONS ARE PUT TO. -/
universe u
namespace Go.Lift

/-! ### The loops of a function bear different numbers -/

def loopIds : Code → List Nat
  | .seq a b => loopIds a ++ loopIds b
  | .cond _ a b => loopIds a ++ loopIds b
  | .block _ b => loopIds b
  | .loop b => match firstId b with
    | some i => i :: loopIds b
    | none => loopIds b
  | _ => []

def noDup : List Nat → Bool
  | [] => true
  | i :: l => !memN i l && noDup l

theorem memN_app {i : Nat} {l m : List Nat} : memN i (l ++ m) = (memN i l || memN i m) := by
  rw [Bool.eq_iff_iff]; simp [memN_iff]

theorem noDup_app : ∀ {l m : List Nat}, noDup (l ++ m) = true → noDup l = true ∧ noDup m = true ∧ ∀ i, i ∈ m → i ∉ l
  | [], m, h => ⟨rfl, h, fun _ _ h => by simp at h⟩
  | i :: l, m, h => by
    simp only [List.cons_append, noDup, Bool.and_eq_true, Bool.not_eq_true', memN_app, Bool.or_eq_false_iff] at h
    obtain ⟨h1, h2, h3⟩ := noDup_app h.2
    refine ⟨by simp [noDup, h.1.1, h1], h2, fun j hj hm => ?_⟩
    rcases List.mem_cons.1 hm with rfl | hm
    · have := memN_iff.2 hj; rw [h.1.2] at this; cases this
    · exact h3 j hj hm

theorem find_mem {i : Nat} : ∀ (c : Code), (i ∉ loopIds c → findLoop i c = none) ∧ (i ∈ loopIds c → ∃ b, findLoop i c = some b)
  | .seq a b => by
    obtain ⟨a1, a2⟩ := find_mem (i := i) a
    obtain ⟨b1, b2⟩ := find_mem (i := i) b
    simp only [loopIds, findLoop, List.mem_append, not_or]
    refine ⟨fun h => by rw [a1 h.1, b1 h.2], fun h => ?_⟩
    by_cases ha : i ∈ loopIds a
    · obtain ⟨x, hx⟩ := a2 ha; rw [hx]; exact ⟨x, rfl⟩
    · rw [a1 ha]; exact b2 (h.resolve_left ha)
  | .cond _ a b => by
    obtain ⟨a1, a2⟩ := find_mem (i := i) a
    obtain ⟨b1, b2⟩ := find_mem (i := i) b
    simp only [loopIds, findLoop, List.mem_append, not_or]
    refine ⟨fun h => by rw [a1 h.1, b1 h.2], fun h => ?_⟩
    by_cases ha : i ∈ loopIds a
    · obtain ⟨x, hx⟩ := a2 ha; rw [hx]; exact ⟨x, rfl⟩
    · rw [a1 ha]; exact b2 (h.resolve_left ha)
  | .block _ b => find_mem b
  | .loop b => by
    obtain ⟨b1, b2⟩ := find_mem (i := i) b
    simp only [loopIds, findLoop]
    cases hf : firstId b with
    | none => exact ⟨b1, b2⟩
    | some j =>
      simp only [List.mem_cons, not_or]
      by_cases h : i = j
      · subst h
        exact ⟨fun h => absurd rfl h.1, fun _ => ⟨b, by simp⟩⟩
      · have hb : Nat.beq i j = false := by rw [← Bool.not_eq_true, Nat.beq_eq]; exact h
        simp only [hb, cond_false]
        exact ⟨fun h => b1 h.2, fun h' => b2 (h'.resolve_left h)⟩
  | .skip => ⟨fun _ => rfl, fun h => by simp [loopIds] at h⟩
  | .region _ _ _ => ⟨fun _ => rfl, fun h => by simp [loopIds] at h⟩
  | .rangeFunc _ _ _ _ => ⟨fun _ => rfl, fun h => by simp [loopIds] at h⟩
  | .exit _ => ⟨fun _ => rfl, fun h => by simp [loopIds] at h⟩
  | .scope _ => ⟨fun _ => rfl, fun h => by simp [loopIds] at h⟩
  | .label _ => ⟨fun _ => rfl, fun h => by simp [loopIds] at h⟩
  | .goto _ => ⟨fun _ => rfl, fun h => by simp [loopIds] at h⟩
  | .ret => ⟨fun _ => rfl, fun h => by simp [loopIds] at h⟩
  | .refuse _ => ⟨fun _ => rfl, fun h => by simp [loopIds] at h⟩

theorem loopsIn_of {c0 : Code} : ∀ (c : Code), noDup (loopIds c) = true → (∀ i, i ∈ loopIds c → findLoop i c0 = findLoop i c) → LoopsIn c0 c
  | .seq a b, hn, h => by
    simp only [loopIds] at hn h
    obtain ⟨n1, n2, n3⟩ := noDup_app hn
    refine ⟨loopsIn_of a n1 fun i hi => ?_, loopsIn_of b n2 fun i hi => ?_⟩
    · rw [h i (List.mem_append_left _ hi)]
      obtain ⟨x, hx⟩ := (find_mem a).2 hi
      simp only [findLoop, hx]
    · rw [h i (List.mem_append_right _ hi)]
      simp only [findLoop, (find_mem a).1 (n3 i hi)]
  | .cond _ a b, hn, h => by
    simp only [loopIds] at hn h
    obtain ⟨n1, n2, n3⟩ := noDup_app hn
    refine ⟨loopsIn_of a n1 fun i hi => ?_, loopsIn_of b n2 fun i hi => ?_⟩
    · rw [h i (List.mem_append_left _ hi)]
      obtain ⟨x, hx⟩ := (find_mem a).2 hi
      simp only [findLoop, hx]
    · rw [h i (List.mem_append_right _ hi)]
      simp only [findLoop, (find_mem a).1 (n3 i hi)]
  | .block _ b, hn, h => loopsIn_of b hn h
  | .loop b, hn, h => by
    simp only [loopIds] at hn h
    cases hf : firstId b with
    | none =>
      simp only [hf] at hn h
      refine ⟨fun i e => (by rw [hf] at e; cases e), loopsIn_of b hn fun i hi => ?_⟩
      rw [h i hi]
      simp only [findLoop, hf]
    | some j =>
      simp only [hf, noDup, Bool.and_eq_true, Bool.not_eq_true'] at hn h
      refine ⟨fun i e => ?_, loopsIn_of b hn.2 fun i hi => ?_⟩
      · rw [hf] at e; cases e
        rw [h j (by simp)]
        simp [findLoop, hf]
      · rw [h i (by simp [hi])]
        have hij : i ≠ j := fun e => by subst e; have := memN_iff.2 hi; rw [hn.1] at this; cases this
        have hb : Nat.beq i j = false := by rw [← Bool.not_eq_true, Nat.beq_eq]; exact hij
        simp [findLoop, hf, hb]
  | .skip, _, _ => trivial
  | .region _ _ _, _, _ => trivial
  | .rangeFunc _ _ _ _, _, _ => trivial
  | .exit _, _, _ => trivial
  | .scope _, _, _ => trivial
  | .label _, _, _ => trivial
  | .goto _, _, _ => trivial
  | .ret, _, _ => trivial
  | .refuse _, _, _ => trivial

/-- All that is checked of a function's text. -/
def funB (fn : Func) (c : Code) (outs : List (Ex × Sh)) : Bool :=
  !(fn.name == "runtime.NumGoroutine") && (dstOk fn.ntmps c && (noDup (loopIds c) && resOk fn outs))

/-! ### The types -/

def lkT {α : Type u} (n : Nat) : List (Nat × α) → Option α
  | [] => none
  | (m, x) :: l => bif Nat.beq m n then some x else lkT n l

theorem lkT_mem {α : Type u} {n : Nat} {x : α} : ∀ {l : List (Nat × α)}, lkT n l = some x → (n, x) ∈ l
  | [], h => by simp [lkT] at h
  | (m, y) :: l, h => by
    simp only [lkT] at h
    cases hb : Nat.beq m n <;> simp only [hb, cond_true, cond_false] at h
    · exact List.mem_cons_of_mem _ (lkT_mem h)
    · cases h; rw [Nat.eq_of_beq_eq_true hb]; exact List.mem_cons_self

/-- The context of these tables. -/
def mkCtx (tys : List (Nat × Ty)) (bys els : List (Nat × Nat)) (eqs : List Nat) : Ctx where
  ty := fun n => lkT n tys
  bytes := fun n => (lkT n bys).getD 0
  elem := fun n => (lkT n els).getD 0
  eqs := eqs
  fns := []

def sliceB (P : Program) (bys els : List (Nat × Nat)) (T : Nat) : Bool :=
  match P.underlying T with
  | some (.slice E) => Nat.beq E ((lkT T els).getD 0) && (match P.info? E with
    | some i => Nat.beq i.bytes ((lkT T bys).getD 0)
    | none => true)
  | _ => true

def tabB (P : Program) (tys : List (Nat × Ty)) (bys els : List (Nat × Nat)) : Bool :=
  tys.all fun p => tyOkB P 60 p.1 p.2 && sliceB P bys els p.1

theorem ctx0_of {P : Program} {tys : List (Nat × Ty)} {bys els : List (Nat × Nat)} {eqs : List Nat} (h : tabB P tys bys els = true) (he : ∀ T, memN T eqs = true → EqFact P T ∧ ∀ t, lkT T tys = some t → plainB t = true) : CtxOk0 P (mkCtx tys bys els eqs) := by
  simp only [tabB, List.all_eq_true, Bool.and_eq_true] at h
  refine ⟨fun T t ht => ⟨60, (h _ (lkT_mem ht)).1⟩, fun T q e E i ht hu hi => ?_, fun T q e E ht hu => ?_, he⟩
  · have h1 := (h _ (lkT_mem ht)).2
    unfold sliceB at h1
    simp only [hu, hi, Bool.and_eq_true] at h1
    exact Nat.eq_of_beq_eq_true h1.2
  · have h1 := (h _ (lkT_mem ht)).2
    unfold sliceB at h1
    simp only [hu, Bool.and_eq_true] at h1
    exact Nat.eq_of_beq_eq_true h1.1

theorem ctx_of {P : Program} {C : Ctx} (h : CtxOk0 P C) (hm : P.follows .mixedOrders = true) {fns : List (FuncId × Fun)} (hf : ∀ p, p ∈ fns → SoundF P p.1 p.2) : CtxOk P { C with fns := fns } :=
  ⟨⟨h.ty, h.bytes, h.elem, h.eqs⟩, hm, hf⟩

theorem fns_nil {P : Program} : ∀ p, p ∈ ([] : List (FuncId × Fun)) → SoundF P p.1 p.2 := fun _ h => by simp at h
theorem fns_cons {P : Program} {n : FuncId} {F : Fun} {l : List (FuncId × Fun)} (h : SoundF P n F) (hl : ∀ p, p ∈ l → SoundF P p.1 p.2) : ∀ p, p ∈ ((n, F) :: l) → SoundF P p.1 p.2 := fun p hp => by
  rcases List.mem_cons.1 hp with rfl | hp
  · exact h
  · exact hl p hp

/-! ### Loops -/

/-- The loops of a function that have been shown so far. -/
def LoopsOf (P : Program) (C : Ctx) (c : Code) (ls : List (Nat × LoopF)) : Prop :=
  CtxOk P C → LoopsIn c c → ∀ N w0, dstOk N c = true → AllOk P N w0 c ls

theorem loops_nil {P : Program} {C : Ctx} {c : Code} : Lift.LoopsOf P C c [] := fun _ _ _ _ _ p h => by simp at h

theorem loops_snoc {P : Program} {C : Ctx} {c : Code} {ls : List (Nat × LoopF)} (h : LoopsOf P C c ls) {i : Nat} {f : LoopF} (hf : ∀ x, f.run x = rounds C (loopsOf ls) f.head f.outs ((findLoop i c).getD .skip) FUEL x) : LoopsOf P C c (ls ++ [(i, f)]) := by
  intro hC hl N w0 hd p hp b hb
  rcases List.mem_append.1 hp with hp | hp
  · exact h hC hl N w0 hd p hp b hb
  · simp only [List.mem_singleton] at hp
    subst hp
    exact loop_ok hC hd hl (h hC hl N w0 hd) hf hb

/-- **A function of the program computes what its abstract run says.** -/
theorem sound_of {P : Program} {C : Ctx} (hC : CtxOk P C) {f : FuncId} {fn : Func} {c : Code} (hf : P.funcs[f]? = some fn) (hb : fn.body = some c) {ins : Sh} {outs : List (Ex × Sh)} {modes : List Bool} {fits : List AV → Sto → Bool} {g : ins.den → Option (Out outs)}
    (hB : funB fn c outs = true) {ls : List (Nat × LoopF)} (hls : LoopsOf P C c ls) (hg : ∀ x, funBody C (loopsOf ls) c (ins.fill x) outs = g x) : SoundF P f ⟨modes, fits, typed modes ins outs g⟩ := by
  simp only [funB, Bool.and_eq_true, Bool.not_eq_true'] at hB
  obtain ⟨h1, h2, h3, h4⟩ := hB
  have hl : LoopsIn c c := loopsIn_of c h3 fun _ _ => rfl
  exact fun_sound hC hf h1 hb h2 hl h4 (fun N w0 hd => hls hC hl N w0 hd) hg


theorem RC_length {M : Mem} : ∀ {l : List AV} {vs : List Value}, RC M l vs → l.length = vs.length
  | [], [], _ => rfl
  | _ :: _, _ :: _, h => by simp only [RC] at h; simp [RC_length h.2]
  | [], _ :: _, h => by simp [RC] at h
  | _ :: _, [], h => by simp [RC] at h

theorem rawV_none : ∀ (ms : List Bool) (vs : List Value), ms.all (!·) = true → rawV ms vs = []
  | [], _, _ => by simp [rawV]
  | _ :: _, [], _ => by simp [rawV]
  | m :: ms, v :: vs, h => by
    simp only [List.all_cons, Bool.and_eq_true, Bool.not_eq_true'] at h
    simp only [rawV, h.1, cond_false]
    exact rawV_none ms vs h.2

/-- A function without a body, of plain values. -/
theorem ext_sound {P : Program} {f : FuncId} {ins : Sh} {outs : List (Ex × Sh)} {modes : List Bool} {fits : List AV → Sto → Bool} {g : ins.den → Option (Out outs)} (hm : modes.all (!·) = true) (henv : ins.env = List.range modes.length)
    (h : ∀ (M : Mem) (vals : List Value) (x : ins.den) (y : Out outs), RC M ((ins.fill x).env.map (·.2)) vals → g x = some y → (outOf outs y).2.args = [] ∧ (outOf outs y).2.σ = [] ∧ (outOf outs y).2.nx = 0 ∧
      ∃ v, (∀ w, (callFunc f vals.toArray).run P w = .ok (.value v) w) ∧ ∀ (M' : Mem) (f : Nat → Nat), R M' (packRes (renL f ((outOf outs y).2.env.map (·.2)))) v) : SoundF P f ⟨modes, fits, typed modes ins outs g⟩ := by
  intro M args σ vals T k r hargs hO hr
  simp only [typed] at hr
  cases hlen : Nat.beq args.length modes.length <;> simp only [hlen, cond_true, cond_false] at hr
  · cases hr
  have hlen := Nat.eq_of_beq_eq_true hlen
  cases hp : ins.pack { env := argEnv 0 args, args := raws modes args, σ := σ, nx := M.nx } with
  | none => simp [hp] at hr
  | some x =>
  simp only [hp, Option.bind_eq_some_iff] at hr
  obtain ⟨y, hy, hk⟩ := hr
  rw [fillOut_eq] at hk
  refine ⟨_, _, _, _, hk, ?_⟩
  obtain ⟨a0, ha0⟩ : ∃ a0 : Act, a0 = { tmps := vals.toArray, defers := [] } := ⟨_, rfl⟩
  have htm : ∀ j v, vals[j]? = some v → tmv a0 j = v := fun j v hj => by rw [ha0]; simp [tmv, hj]
  have hI0 : Inv a0.tmps.size ⟨M.w, M.own, rawV modes vals⟩ M { env := argEnv 0 args, args := raws modes args, σ := σ, nx := M.nx } a0 :=
    ⟨⟨argEnv_ok args vals 0 hargs fun j v hj => by rw [Nat.zero_add]; exact htm j v hj, RC_raws _ _ _ hargs, hO, rfl⟩, Frame.refl _ _, by rw [ha0], rfl⟩
  obtain ⟨M1, hw1, hI1, hRC⟩ := pack_ok hp hI0
  have hl := RC_length hargs
  have e : ins.env.map (tmv a0) = vals := by
    rw [henv, ← hlen, hl]
    apply List.ext_getElem?
    intro j
    by_cases hj : j < vals.length
    · have : vals[j]? = some vals[j] := List.getElem?_eq_getElem hj
      simp [hj, htm j _ this]
    · simp [hj]
  rw [e] at hRC
  obtain ⟨h1, h2, h3, v, h4, h5⟩ := h M1 vals x y hRC hy
  refine .inl ⟨v, M.w, h4 M.w, M, rfl, ?_, fun _ _ => rfl, Frame.refl _ _, h5 M _, ?_, ?_⟩
  · rw [h3]; rfl
  · rw [h1, rawV_none _ _ hm]; simp [renL, RC]
  · rw [h2]
    intro id
    exact ⟨.inl rfl, trivial⟩

/-- A function that never answers. -/
theorem none_sound {P : Program} {f : FuncId} {ins : Sh} {outs : List (Ex × Sh)} {modes : List Bool} {fits : List AV → Sto → Bool} {g : ins.den → Option (Out outs)} (h : ∀ x, g x = none) : SoundF P f ⟨modes, fits, typed modes ins outs g⟩ := by
  intro M args σ vals T k r hargs hO hr
  simp only [typed] at hr
  cases hlen : Nat.beq args.length modes.length <;> simp only [hlen, cond_true, cond_false] at hr
  · cases hr
  cases hp : ins.pack { env := argEnv 0 args, args := raws modes args, σ := σ, nx := M.nx } with
  | none => simp [hp] at hr
  | some x => simp [hp, h x] at hr

/-- What an operation on int leaves. -/
def wi (n : Int) : Int := IntKind.i64.wrap n
def wu (n : Int) : Int := IntKind.u64.wrap n
def w8 (n : Int) : Int := IntKind.u8.wrap n

end Go.Lift
