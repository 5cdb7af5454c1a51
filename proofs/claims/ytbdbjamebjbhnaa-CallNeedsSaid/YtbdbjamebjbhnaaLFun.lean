import Derived.Test.YtbdbjamebjbhnaaLPack
set_option linter.all false
/- CODE, LOOPS, FUNCTIONS. -/
namespace Go.Lift

def Ex.to : Ex → Exit
  | .normal => .normal
  | .exit id => .exit id
  | .ret => .ret

/-- All slots that are written are among the first N. -/
def dstOk (N : Nat) : Code → Bool
  | .region _ ops _ => ops.toList.all fun o => match o.dst with
    | some d => Nat.blt d N
    | none => true
  | .seq a b => dstOk N a && dstOk N b
  | .cond _ a b => dstOk N a && dstOk N b
  | .block _ b => dstOk N b
  | .loop b => dstOk N b
  | _ => true

/-- The loops of c are found in c0 by their numbers. -/
def LoopsIn (c0 : Code) : Code → Prop
  | .seq a b => LoopsIn c0 a ∧ LoopsIn c0 b
  | .cond _ a b => LoopsIn c0 a ∧ LoopsIn c0 b
  | .block _ b => LoopsIn c0 b
  | .loop b => (∀ i, firstId b = some i → findLoop i c0 = some b) ∧ LoopsIn c0 b
  | _ => True

theorem find_ok {c0 : Code} {N i : Nat} {b : Code} : ∀ (c : Code), LoopsIn c0 c → dstOk N c = true → findLoop i c = some b → LoopsIn c0 b ∧ dstOk N b = true
  | .seq x y, hl, hd, h => by
    simp only [LoopsIn, dstOk, Bool.and_eq_true, findLoop] at hl hd h
    cases hx : findLoop i x with
    | some c => simp only [hx, Option.some.injEq] at h; subst h; exact find_ok x hl.1 hd.1 hx
    | none => simp only [hx] at h; exact find_ok y hl.2 hd.2 h
  | .cond _ x y, hl, hd, h => by
    simp only [LoopsIn, dstOk, Bool.and_eq_true, findLoop] at hl hd h
    cases hx : findLoop i x with
    | some c => simp only [hx, Option.some.injEq] at h; subst h; exact find_ok x hl.1 hd.1 hx
    | none => simp only [hx] at h; exact find_ok y hl.2 hd.2 h
  | .block _ x, hl, hd, h => find_ok x hl hd h
  | .loop x, hl, hd, h => by
    simp only [LoopsIn, dstOk, findLoop] at hl hd h
    cases hf : firstId x with
    | none => simp only [hf] at h; exact find_ok x hl.2 hd h
    | some j =>
      simp only [hf] at h
      cases hb : Nat.beq i j <;> simp only [hb, cond_true, cond_false] at h
      · exact find_ok x hl.2 hd h
      · cases h; exact ⟨hl.2, hd⟩
  | .scope _, _, _, h => by simp [findLoop] at h
  | .skip, _, _, h => by simp [findLoop] at h
  | .region _ _ _, _, _, h => by simp [findLoop] at h
  | .rangeFunc _ _ _ _, _, _, h => by simp [findLoop] at h
  | .exit _, _, _, h => by simp [findLoop] at h
  | .label _, _, _, h => by simp [findLoop] at h
  | .goto _, _, _, h => by simp [findLoop] at h
  | .ret, _, _, h => by simp [findLoop] at h
  | .refuse _, _, _, h => by simp [findLoop] at h

theorem dstOk_mono {N M : Nat} (h : N ≤ M) : ∀ c, dstOk N c = true → dstOk M c = true
  | .region _ ops _, hd => by
    simp only [dstOk, List.all_eq_true] at hd ⊢
    intro o ho
    have := hd o ho
    cases hdst : o.dst with
    | none => rfl
    | some d => rw [hdst] at this; simp only [Nat.blt_eq] at this ⊢; omega
  | .seq a b, hd => by simp only [dstOk, Bool.and_eq_true] at hd ⊢; exact ⟨dstOk_mono h a hd.1, dstOk_mono h b hd.2⟩
  | .cond _ a b, hd => by simp only [dstOk, Bool.and_eq_true] at hd ⊢; exact ⟨dstOk_mono h a hd.1, dstOk_mono h b hd.2⟩
  | .block _ b, hd => dstOk_mono h b hd
  | .loop b, hd => dstOk_mono h b hd
  | .skip, _ => rfl
  | .rangeFunc _ _ _ _, _ => rfl
  | .exit _, _ => rfl
  | .scope _, _ => rfl
  | .label _, _ => rfl
  | .goto _, _ => rfl
  | .ret, _ => rfl
  | .refuse _, _ => rfl

/-- A round of a loop, and all that follow. -/
def RoundWp (P : Program) (c : Code) (Q : Exit → Act → World → Prop) (a : Act) (w : World) : Prop :=
  ∀ (b : Go.Frame) (k : List Item) (cs : List Go.Frame), ∃ e a' w', Q e a' w' ∧ Arrives P (lone (b.at a (.code c :: .inLoop c :: k)) cs w) b k cs e a' w'

theorem loop_of_round {P : Program} {c : Code} {Q : Exit → Act → World → Prop} {a : Act} {w : World} (h : RoundWp P c Q a w) : (Code.loop c).wp P Q a w := fun b k cs =>
  let ⟨e, a', w', q, r⟩ := h b k cs
  ⟨e, a', w', q, .of_steps (.one step_loop) r⟩

theorem round_step {P : Program} {c : Code} {Q : Exit → Act → World → Prop} {a : Act} {w : World} (h : c.wp P (Exit.then (RoundWp P c Q) Q) a w) : RoundWp P c Q a w := by
  intro b k cs
  obtain ⟨e, a₁, w₁, hq, harr⟩ := h b (.inLoop c :: k) cs
  cases e with
  | normal =>
    obtain ⟨e₂, a₂, w₂, hq₂, harr₂⟩ := hq b k cs
    exact ⟨e₂, a₂, w₂, hq₂, .of_steps (Steps.trans harr (.one step_inLoop)) harr₂⟩
  | exit id => exact ⟨_, a₁, w₁, hq, .pass (x := .inLoop c) rfl (fun _ _ => .inl (by simp)) harr⟩
  | goto l => exact ⟨_, a₁, w₁, hq, .pass (x := .inLoop c) rfl (fun _ _ => .inl (by simp)) harr⟩
  | ret => exact ⟨_, a₁, w₁, hq, .pass (x := .inLoop c) rfl (fun _ _ => .inl (by simp)) harr⟩
  | panic ch => exact ⟨_, a₁, w₁, hq, .pass (x := .inLoop c) rfl (fun _ _ => .inl (by simp)) harr⟩
  | outgrown => exact ⟨_, a₁, w₁, hq, .pass (x := .inLoop c) rfl (fun _ _ => .inl (by simp)) harr⟩


/-- The one way out, of several. -/
def outOf : (l : List (Ex × Sh)) → Out l → Ex × St
  | [], x => nomatch x
  | [p], x => (p.1, p.2.fill x)
  | p :: q :: l, x => match x with
    | .inl y => (p.1, p.2.fill y)
    | .inr y => outOf (q :: l) y

theorem fillOut_eq : ∀ (l : List (Ex × Sh)) (x : Out l) {R : Type} (k : Ex → St → Option R), fillOut l x k = k (outOf l x).1 (outOf l x).2
  | [], x, _, _ => nomatch x
  | [p], x, _, _ => rfl
  | p :: q :: l, x, _, k => by
    cases x with
    | inl y => rfl
    | inr y => exact fillOut_eq (q :: l) y k

theorem exBeq_eq {a b : Ex} (h : a.beq b = true) : a = b := by
  cases a <;> cases b <;> simp [Ex.beq] at h <;> first | rfl | rw [h]

theorem packOut_ok : ∀ (l : List (Ex × Sh)) (e : Ex) (s : St) (y : Out l), packOut l e s = some y → ∃ p x, p ∈ l ∧ p.2.pack s = some x ∧ outOf l y = (e, p.2.fill x)
  | [], _, _, _, h => by simp [packOut] at h
  | [p], e, s, y, h => by
    simp only [packOut] at h
    cases hb : p.1.beq e <;> simp only [hb, cond_true, cond_false] at h
    · cases h
    · exact ⟨p, y, by simp, h, by simp [outOf, exBeq_eq hb]⟩
  | p :: q :: l, e, s, y, h => by
    simp only [packOut] at h
    cases hx : (bif p.1.beq e then p.2.pack s else none) with
    | some x =>
      simp only [hx, Option.some.injEq] at h
      subst h
      cases hb : p.1.beq e <;> simp only [hb, cond_true, cond_false] at hx
      · cases hx
      · exact ⟨p, x, by simp, hx, by simp [outOf, exBeq_eq hb]⟩
    | none =>
      simp only [hx] at h
      cases hr : packOut (q :: l) e s with
      | none => simp [hr] at h
      | some z =>
        simp only [hr, Option.some.injEq] at h
        subst h
        obtain ⟨p', x, h1, h2, h3⟩ := packOut_ok (q :: l) e s z hr
        exact ⟨p', x, List.mem_cons_of_mem _ h1, h2, by simpa [outOf] using h3⟩

section
variable {N : Nat} {w0 : Entry} {P : Program} {C : Ctx} {c0 : Code}

def LoopsOk (P : Program) (N : Nat) (w0 : Entry) (c0 : Code) (L : Loops) : Prop :=
  ∀ (i : Nat) (b : Code) (s : St) (T : Type) (k : Ex → St → Option T) (r : T) (M : Mem) (a : Act) (Q : Exit → Act → World → Prop), findLoop i c0 = some b → L i s T k = some r → Inv N w0 M s a →
    (∀ e s' M' a', k e s' = some r → Inv N w0 M' s' a' → Q e.to a' M'.w) → (Code.loop b).wp P Q a M.w

theorem abs_sound (hC : CtxOk P C) {L : Loops} (hL : LoopsOk P N w0 c0 L) : ∀ (c : Code) (s : St) {T : Type} (k : Ex → St → Option T) (r : T) (M : Mem) (a : Act) (Q : Exit → Act → World → Prop),
    absRun C L c s k = some r → Inv N w0 M s a → dstOk N c = true → LoopsIn c0 c → (∀ e s' M' a', k e s' = some r → Inv N w0 M' s' a' → Q e.to a' M'.w) → c.wp P Q a M.w
  | .skip, s, _, k, r, M, a, Q, h, hI, _, _, hk => wp_skip (hk .normal s M a h hI)
  | .region id ops draw, s, _, k, r, M, a, Q, h, hI, hd, _, hk => by
    simp only [absRun] at h
    have hd' : ∀ o, o ∈ ops.toList → ∀ d, o.dst = some d → d < N := fun o ho d hd' => by
      simp only [dstOk, List.all_eq_true] at hd
      have := hd o ho
      rw [hd'] at this
      simpa [Nat.blt_eq] using this
    cases draw <;> simp only [cond_true, cond_false] at h
    · refine wp_region_list ?_
      have := run_sound (Q := Q) hC (ops.size + 1) false none ops.toList s (k .normal) r M a [] h hI hd' (fun _ _ e => by cases e) (fun e => absurd rfl e) (fun s' M' a' e1 e2 _ => hk .normal s' M' a' e1 e2)
      simpa using this
    · exact draw_reg hC hd' h hI (fun s' M' a' e1 e2 => hk .normal s' M' a' e1 e2)
  | .seq x y, s, _, k, r, M, a, Q, h, hI, hd, hl, hk => by
    simp only [absRun] at h
    simp only [dstOk, Bool.and_eq_true, LoopsIn] at hd hl
    refine wp_seq (abs_sound hC hL x s _ r M a _ h hI hd.1 hl.1 fun e s' M' a' he hI' => ?_)
    cases e with
    | normal => exact abs_sound hC hL y s' k r M' a' Q he hI' hd.2 hl.2 hk
    | exit id => exact hk (.exit id) s' M' a' he hI'
    | ret => exact hk .ret s' M' a' he hI'
  | .cond c x y, s, _, k, r, M, a, Q, h, hI, hd, hl, hk => by
    simp only [absRun] at h
    simp only [dstOk, Bool.and_eq_true, LoopsIn] at hd hl
    cases hb : (ev s c).bool? with
    | none => simp [hb] at h
    | some t =>
      simp only [hb] at h
      refine wp_cond (bool_ok hI hb) ?_
      cases t <;> simp only [cond_true, cond_false] at h
      · exact abs_sound hC hL y s k r M a Q h hI hd.2 hl.2 hk
      · exact abs_sound hC hL x s k r M a Q h hI hd.1 hl.1 hk
  | .block id b, s, _, k, r, M, a, Q, h, hI, hd, hl, hk => by
    simp only [absRun] at h
    refine wp_block (abs_sound hC hL b s _ r M a _ h hI hd hl fun e s' M' a' he hI' => ?_)
    cases e with
    | normal => exact hk .normal s' M' a' he hI'
    | exit j =>
      simp only at he
      simp only [Ex.to, Exit.inBlock]
      cases hj : Nat.beq j id <;> simp only [hj, cond_true, cond_false] at he
      · rw [if_neg (fun e => by subst e; simp at hj)]
        exact hk (.exit j) s' M' a' he hI'
      · rw [if_pos (Nat.eq_of_beq_eq_true hj)]
        exact hk .normal s' M' a' he hI'
    | ret => exact hk .ret s' M' a' he hI'
  | .loop b, s, _, k, r, M, a, Q, h, hI, hd, hl, hk => by
    simp only [absRun] at h
    simp only [LoopsIn] at hl
    cases hf : firstId b with
    | none => simp [hf] at h
    | some i =>
      simp only [hf] at h
      exact hL i b s _ k r M a Q (hl.1 i hf) h hI hk
  | .exit id, s, _, k, r, M, a, Q, h, hI, _, _, hk => wp_exit (hk (.exit id) s M a h hI)
  | .ret, s, _, k, r, M, a, Q, h, hI, _, _, hk => wp_ret (hk .ret s M a h hI)
  | .rangeFunc _ _ _ _, _, _, _, _, _, _, _, h, _, _, _, _ => by simp [absRun] at h
  | .scope _, _, _, _, _, _, _, _, h, _, _, _, _ => by simp [absRun] at h
  | .label _, _, _, _, _, _, _, _, h, _, _, _, _ => by simp [absRun] at h
  | .goto _, _, _, _, _, _, _, _, h, _, _, _, _ => by simp [absRun] at h
  | .refuse _, _, _, _, _, _, _, _, h, _, _, _, _ => by simp [absRun] at h

/-- What a loop computes. -/
def LoopOk (P : Program) (N : Nat) (w0 : Entry) (b : Code) (f : LoopF) : Prop :=
  ∀ (x : f.head.den) (y : Out f.outs) (M : Mem) (a : Act) (Q : Exit → Act → World → Prop), f.run x = some y → Inv N w0 M (f.head.fill x) a →
    (∀ M' a', Inv N w0 M' (outOf f.outs y).2 a' → Q (outOf f.outs y).1.to a' M'.w) → (Code.loop b).wp P Q a M.w

theorem rounds_ok (hC : CtxOk P C) {L : Loops} (hL : LoopsOk P N w0 c0 L) {head : Sh} {outs : List (Ex × Sh)} {b : Code} (hd : dstOk N b = true) (hl : LoopsIn c0 b) : ∀ (n : Nat) (x : head.den) (y : Out outs) (M : Mem) (a : Act) (Q : Exit → Act → World → Prop),
    rounds C L head outs b n x = some y → Inv N w0 M (head.fill x) a → (∀ M' a', Inv N w0 M' (outOf outs y).2 a' → Q (outOf outs y).1.to a' M'.w) → RoundWp P b Q a M.w
  | 0, _, _, _, _, _, h, _, _ => by simp [rounds] at h
  | n + 1, x, y, M, a, Q, h, hI, hk => by
    simp only [rounds, round] at h
    refine round_step (abs_sound hC hL b _ _ y M a _ h hI hd hl fun e s1 M1 a1 he hI1 => ?_)
    cases e with
    | normal =>
      simp only at he
      cases hp : head.pack s1 with
      | none => simp [hp] at he
      | some x1 =>
        simp only [hp] at he
        obtain ⟨M2, hw, hI2, _⟩ := pack_ok hp hI1
        rw [← hw]
        exact rounds_ok hC hL hd hl n x1 y M2 a1 Q he hI2 hk
    | exit id =>
      simp only at he
      obtain ⟨p, x1, _, h2, h3⟩ := packOut_ok outs _ _ _ he
      obtain ⟨M2, hw, hI2, _⟩ := pack_ok h2 hI1
      have := hk M2 a1 (by rw [h3]; exact hI2)
      rw [h3] at this
      rw [← hw]
      exact this
    | ret =>
      simp only at he
      obtain ⟨p, x1, _, h2, h3⟩ := packOut_ok outs _ _ _ he
      obtain ⟨M2, hw, hI2, _⟩ := pack_ok h2 hI1
      have := hk M2 a1 (by rw [h3]; exact hI2)
      rw [h3] at this
      rw [← hw]
      exact this

/-- The loops of a function: each knows those within it. -/
def AllOk (P : Program) (N : Nat) (w0 : Entry) (c0 : Code) (ls : List (Nat × LoopF)) : Prop := ∀ p, p ∈ ls → ∀ b, findLoop p.1 c0 = some b → LoopOk P N w0 b p.2

theorem lkF_mem {α : Type} {i : Nat} {x : α} : ∀ {l : List (Nat × α)}, lkF i l = some x → (i, x) ∈ l
  | [], h => by simp [lkF] at h
  | (j, y) :: l, h => by
    simp only [lkF] at h
    cases hb : Nat.beq j i <;> simp only [hb, cond_true, cond_false] at h
    · exact List.mem_cons_of_mem _ (lkF_mem h)
    · cases h; rw [Nat.eq_of_beq_eq_true hb]; exact List.mem_cons_self

theorem loops_ok {ls : List (Nat × LoopF)} (h : AllOk P N w0 c0 ls) : LoopsOk P N w0 c0 (loopsOf ls) := by
  intro i b s T k r M a Q hf hr hI hk
  unfold loopsOf at hr
  cases hl : lkF i ls with
  | none => simp [hl] at hr
  | some f =>
    simp only [hl] at hr
    unfold LoopF.go at hr
    cases hp : f.head.pack s with
    | none => simp [hp] at hr
    | some x =>
      simp only [hp, Option.bind_eq_some_iff] at hr
      obtain ⟨y, h1, h2⟩ := hr
      rw [fillOut_eq] at h2
      obtain ⟨M1, hw, hI1, _⟩ := pack_ok hp hI
      rw [← hw]
      exact h _ (lkF_mem hl) b hf x y M1 a Q h1 hI1 fun M' a' hI' => hk _ _ M' a' h2 hI'

/-- One loop more. -/
theorem loop_ok (hC : CtxOk P C) (hd : dstOk N c0 = true) (hl : LoopsIn c0 c0) {ls : List (Nat × LoopF)} (hls : AllOk P N w0 c0 ls) {i : Nat} {f : LoopF} (hf : ∀ x, f.run x = rounds C (loopsOf ls) f.head f.outs ((findLoop i c0).getD .skip) FUEL x) {b : Code} (hb : findLoop i c0 = some b) :
    LoopOk P N w0 b f := by
  intro x y M a Q hr hI hk
  obtain ⟨h1, h2⟩ := find_ok c0 hl hd hb
  rw [hf, hb] at hr
  exact loop_of_round (rounds_ok hC (loops_ok hls) h2 h1 FUEL x y M a Q hr hI hk)

end

/-! ### Functions -/

def tmpsRes : List ResultVar → List Nat
  | [] => []
  | .tmp t :: l => t :: tmpsRes l
  | .cell t _ :: l => t :: tmpsRes l

def allTmp : List ResultVar → Bool
  | [] => true
  | .tmp _ :: l => allTmp l
  | .cell _ _ :: _ => false

theorem run_results {P : Program} {fn : Func} {tmps : Array Value} {w : World} (h : allTmp fn.results.toList = true) (hn : fn.results.size ≤ 6) :
    (results fn tmps).run P w = .ok (match (tmpsRes fn.results.toList).map fun t => tmps.getD t undef with
      | [v] => v
      | vs => .tuple vs.toArray) w := by
  obtain ⟨rs, hrs⟩ : ∃ rs : List ResultVar, fn.results = rs.toArray := ⟨fn.results.toList, by simp⟩
  rw [hrs] at h hn ⊢
  match rs, h, hn with
  | [], _, _ => simp [results, hrs, tmpsRes]
  | [.tmp a], _, _ => simp [results, hrs, tmpsRes]
  | [.tmp a, .tmp b], _, _ => simp [results, hrs, tmpsRes]
  | [.tmp a, .tmp b, .tmp c], _, _ => simp [results, hrs, tmpsRes]
  | [.tmp a, .tmp b, .tmp c, .tmp d], _, _ => simp [results, hrs, tmpsRes]
  | [.tmp a, .tmp b, .tmp c, .tmp d, .tmp e], _, _ => simp [results, hrs, tmpsRes]
  | [.tmp a, .tmp b, .tmp c, .tmp d, .tmp e, .tmp f], _, _ => simp [results, hrs, tmpsRes]
  | _ :: _ :: _ :: _ :: _ :: _ :: _ :: _, _, hn => simp at hn


theorem argEnv_ok {M : Mem} {a : Act} : ∀ (args : List AV) (vals : List Value) (i0 : Nat), RC M args vals → (∀ j v, vals[j]? = some v → tmv a (i0 + j) = v) → ∀ k, R M (lk (argEnv i0 args) k) (tmv a k)
  | [], _, _, _, _, k => by simp [argEnv, lk, R]
  | x :: args, [], _, h, _, _ => by simp [RC] at h
  | x :: args, v :: vals, i0, h, ht, k => by
    simp only [RC] at h
    simp only [argEnv, lk_cons]
    by_cases hk : k = i0
    · rw [if_pos hk, hk, show tmv a i0 = v from ht 0 v rfl]; exact h.1
    · rw [if_neg hk]
      exact argEnv_ok args vals (i0 + 1) h.2 (fun j v hj => by have := ht (j + 1) v (by simpa using hj); rw [← this]; congr 1; omega) k

/-- Behind the names that there were. -/
noncomputable def Mem.shift (M M2 : Mem) : Mem where
  φ := fun i => if i < M.nx then M.φ i else M2.φ (i - M.nx)
  nx := Lift.shift M.nx M2.nx
  own := fun b => (M2.own b).ren (Lift.shift M.nx)
  w := M2.w

theorem shift_ren (M M2 : Mem) : Ren (Lift.shift M.nx) (fun i => i - M.nx) M2 (M.shift M2) :=
  ⟨fun i => by simp [Lift.shift], fun i hi => by simp only [Mem.shift, Lift.shift]; omega, fun i _ => by
    simp only [Mem.shift, Lift.shift]
    rw [if_neg (by omega)]
    congr 1
    omega, rfl, fun b id _ h => by simp [Mem.shift, h, Lab.ren]⟩

theorem shift_imm (M M2 : Mem) : Ren.Imm M2 (M.shift M2) := fun b _ h => by simp [Mem.shift, h, Lab.ren]

/-- The results of a function, as its shapes have them. -/
def resOk (fn : Func) (outs : List (Ex × Sh)) : Bool := allTmp fn.results.toList && Nat.ble fn.results.size 6 && outs.all fun p => p.2.env == tmpsRes fn.results.toList

/-- **A function computes what its abstract run says.** -/
theorem fun_sound {P : Program} {C : Ctx} (hC : CtxOk P C) {f : FuncId} {fn : Func} {c : Code} (hf : P.funcs[f]? = some fn) (hname : (fn.name == "runtime.NumGoroutine") = false) (hb : fn.body = some c) (hd : dstOk fn.ntmps c = true) (hl : LoopsIn c c)
    {ins : Sh} {outs : List (Ex × Sh)} {modes : List Bool} {fits : List AV → Sto → Bool} {g : ins.den → Option (Out outs)} (hres : resOk fn outs = true) {ls : List (Nat × LoopF)}
    (hls : ∀ N w0, dstOk N c = true → AllOk P N w0 c ls) (hg : ∀ x, funBody C (loopsOf ls) c (ins.fill x) outs = g x) : SoundF P f ⟨modes, fits, typed modes ins outs g⟩ := by
  intro M args σ vals T k r hargs hO hr
  simp only [typed] at hr
  cases hlen : Nat.beq args.length modes.length <;> simp only [hlen, cond_true, cond_false] at hr
  · cases hr
  cases hp : ins.pack { env := argEnv 0 args, args := raws modes args, σ := σ, nx := M.nx } with
  | none => simp [hp] at hr
  | some x =>
  simp only [hp, Option.bind_eq_some_iff] at hr
  obtain ⟨y, hy, hk⟩ := hr
  rw [fillOut_eq] at hk
  refine ⟨_, _, _, _, hk, ?_⟩
  obtain ⟨a0, ha0⟩ : ∃ a0 : Act, a0 = { tmps := vals.toArray ++ Array.replicate (fn.ntmps - vals.toArray.size) undef, defers := [] } := ⟨_, rfl⟩
  have hI0 : Inv a0.tmps.size ⟨M.w, M.own, rawV modes vals⟩ M { env := argEnv 0 args, args := raws modes args, σ := σ, nx := M.nx } a0 := by
    refine ⟨⟨?_, RC_raws _ _ _ hargs, hO, rfl⟩, Frame.refl _ _, by rw [ha0], rfl⟩
    refine argEnv_ok args vals 0 hargs fun j v hj => ?_
    have hj' : j < vals.length := (List.getElem?_eq_some_iff.1 hj).1
    rw [ha0]
    simp only [tmv, Nat.zero_add, Array.getD_eq_getD_getElem?]
    rw [Array.getElem?_append_left (by simpa using hj')]
    simp [hj]
  obtain ⟨M1, hw1, hI1, _⟩ := pack_ok hp hI0
  have hd' : dstOk a0.tmps.size c = true := by
    have hle : fn.ntmps ≤ a0.tmps.size := by rw [ha0]; simp; omega
    exact dstOk_mono hle c hd
  simp only [resOk, Bool.and_eq_true, List.all_eq_true, Nat.ble_eq] at hres
  obtain ⟨⟨hres1, hres2⟩, hres3⟩ := hres
  rw [← hg] at hy
  refine .inr ⟨?_, ?_⟩
  · have h1 : fn.name ≠ "runtime.NumGoroutine" := by simpa using hname
    simp [callFunc, hf, h1, hb]
  · refine calls_of_wp hf hb ?_
    rw [← ha0, show M.w = M1.w from hw1.symm]
    unfold funBody at hy
    refine abs_sound hC (loops_ok (hls _ _ hd')) c _ _ y M1 a0 _ hy hI1 hd' hl fun e s' M' a' he hI' => ?_
    -- the end
    have fin : packOut outs .ret s' = some y → ∃ v, (results fn a'.tmps).run P M'.w = .ok v M'.w ∧ ∃ u, Ending.returned v = .returned u ∧ After M modes vals (packRes (renL (shift M.nx) ((outOf outs y).2.env.map (·.2)))) (renL (shift M.nx) (outOf outs y).2.args) (renSto (shift M.nx) (outOf outs y).2.σ) (shift M.nx (outOf outs y).2.nx) u M'.w := by
      intro hpo
      obtain ⟨p, x1, q1, q2, q3⟩ := packOut_ok outs _ _ _ hpo
      obtain ⟨M2, hw2, hI2, hRC⟩ := pack_ok q2 hI'
      rw [q3]
      have hrun := run_results (P := P) (tmps := a'.tmps) (w := M'.w) hres1 hres2
      have henv : p.2.env = tmpsRes fn.results.toList := by simpa using hres3 p q1
      rw [henv] at hRC
      have hren := shift_ren M M2
      have himm := shift_imm M M2
      have hRC2 := RC_ren hren _ _ (.inl himm) hRC
      refine ⟨_, hrun, _, rfl, M.shift M2, hw2, ?_, fun i hi => by simp [Mem.shift, hi], ?_, ?_, RC_ren hren _ _ (.inl himm) hI2.holds.args, OS1_ren hren (.inl himm) hI2.holds.objs⟩
      · show shift M.nx M2.nx = shift M.nx (p.2.fill x1).nx
        rw [hI2.holds.nx]
      · have := Ren.frame (f := shift M.nx) (g := fun i => i - M.nx) (M := M2) (M2 := M.shift M2) hI2.frame rfl (fun b => rfl)
        rw [← hw2]
        exact this
      · generalize (tmpsRes fn.results.toList) = rs at hRC2 ⊢
        have e : (rs.map fun t => a'.tmps.getD t undef) = rs.map (tmv a') := rfl
        rw [e]
        generalize rs.map (tmv a') = vs at hRC2
        generalize renL (shift M.nx) ((p.2.fill x1).env.map (·.2)) = res at hRC2
        match res, vs, hRC2 with
        | [], [], h => simp only [packRes, R]; exact ⟨#[], rfl, by simpa using h⟩
        | [], _ :: _, h => simp [RC] at h
        | [x], [v], h => simp only [RC] at h; exact h.1
        | [x], [], h => simp [RC] at h
        | [x], _ :: _ :: _, h => simp [RC] at h
        | x :: y :: l, v :: u :: vs, h => simp only [packRes, R]; exact ⟨_, rfl, by simpa using h⟩
        | x :: y :: l, [], h => simp [RC] at h
        | x :: y :: l, [_], h => simp [RC] at h
    cases e with
    | exit id => cases he
    | normal => exact ⟨hI'.defers, fin he⟩
    | ret => exact ⟨hI'.defers, fin he⟩

end Go.Lift
