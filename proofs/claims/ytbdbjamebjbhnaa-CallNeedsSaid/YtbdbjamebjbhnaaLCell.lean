import Derived.Test.YtbdbjamebjbhnaaLCtx
set_option linter.all false
/- A function whose one result lies in a cell. -/
namespace Go.Lift
open Go

/-- What lies in the result's cell, into its slot. -/
def finCell (C : Ctx) (c : Nat) (T : TypeId) (s : St) {R : Type} (k : St → Option R) : Option R :=
  match tgt s.σ (lk s.env c), C.ty T with
  | some g, some t => match tgtD s.σ g with
    | some z => bif z.t.shape.beq t.shape then k (s.put (some c) z.av) else none
    | none => none
  | _, _ => none

def funBodyC (C : Ctx) (L : Loops) (c : Code) (cl : Nat) (T : TypeId) (s : St) (outs : List (Ex × Sh)) : Option (Out outs) :=
  absRun C L c s fun e s' => match e with
    | .normal => finCell C cl T s' (packOut outs .ret)
    | .ret => finCell C cl T s' (packOut outs .ret)
    | .exit _ => none

theorem finCell_ok {P : Program} {C : Ctx} (hC : CtxOk0 P C) {N : Nat} {w0 : Entry} {M : Mem} {s : St} {a : Act} {c : Nat} {T : TypeId} (hI : Inv N w0 M s a) (hc : c < N) {R' : Type} {k : St → Option R'} {r : R'} (h : finCell C c T s k = some r) {fn : Func} (hfn : fn.results = #[.cell c T]) :
    ∃ s' v, k s' = some r ∧ Inv N w0 M s' (a.put (some c) v) ∧ (results fn a.tmps).run P M.w = .ok v M.w ∧ tmv (a.put (some c) v) c = v := by
  unfold finCell at h
  split at h
  · rename_i g t hx hT
    cases hz : tgtD s.σ g with
    | none => simp [hz] at h
    | some z =>
      simp only [hz] at h
      cases hb : z.t.shape.beq t.shape <;> simp only [hb, cond_true, cond_false] at h
      · cases h
      have hR := tgt_ok hI.holds.objs hx (hI.holds.slots c)
      obtain ⟨b, off, cs, h1, h2, h3, h4⟩ := tgt_read hI.holds.objs hR hz
      have hTy := hC.ty _ _ hT
      have hsh := Ty.beq_eq hb
      have hrun := run_loadVar (P := P) (w := M.w) hTy (b := b) (off := off) (cs := cs) (by rw [rep_length h4, size_of_shape hsh]) h3
      refine ⟨_, valOf t cs, h, ?_, ?_, ?_⟩
      · refine hI.put (fun j hj => by cases hj; exact hc) ?_
        simp only [Dat.av, R]
        exact ⟨cs, by simp only [valOf, isAgg_of_shape hsh], h4⟩
      · have h1' : a.tmps[c]?.getD undef = .pointer (some ⟨b, off, none⟩) := by rw [← Array.getD_eq_getD_getElem?]; exact h1
        simp [results, hfn, h1', asAddr, hrun]
      · have := hI.size
        simp only [tmv, Act.put, Array.getD_eq_getD_getElem?]
        rw [Array.getElem?_setIfInBounds_self_of_lt (by omega)]
        rfl
  · cases h
/-- **A function whose result lies in a cell computes what its abstract run says.** -/
theorem fun_soundC {P : Program} {C : Ctx} (hC : CtxOk P C) {f : FuncId} {fn : Func} {c : Code} (hf : P.funcs[f]? = some fn) (hname : (fn.name == "runtime.NumGoroutine") = false) (hb : fn.body = some c) (hd : dstOk fn.ntmps c = true) (hl : LoopsIn c c)
    {ins : Sh} {outs : List (Ex × Sh)} {modes : List Bool} {fits : List AV → Sto → Bool} {g : ins.den → Option (Out outs)} {cl : Nat} {CT : TypeId} (hres : fn.results = #[.cell cl CT]) (hcl : cl < fn.ntmps) (hres3 : (outs.all fun p => p.2.env == [cl]) = true) {ls : List (Nat × LoopF)}
    (hls : ∀ N w0, dstOk N c = true → AllOk P N w0 c ls) (hg : ∀ x, funBodyC C (loopsOf ls) c cl CT (ins.fill x) outs = g x) : SoundF P f ⟨modes, fits, typed modes ins outs g⟩ := by
  intro M args σ vals T k r hargs hO hr
  simp only [typed] at hr
  cases hlen : Nat.beq args.length modes.length <;> simp only [hlen, cond_true, cond_false] at hr
  · cases hr
  cases hp : ins.pack { env := argEnv 0 args, args := raws modes args, σ := σ, nx := M.nx } with
  | none => simp [hp] at hr
  | some x =>
  simp only [hp, Option.bind_eq_some_iff] at hr
  obtain ⟨y, hy, hk⟩ := hr
  rw [fillOut_eq] at hk
  refine ⟨_, _, _, _, hk, ?_⟩
  obtain ⟨a0, ha0⟩ : ∃ a0 : Act, a0 = { tmps := vals.toArray ++ Array.replicate (fn.ntmps - vals.toArray.size) undef, defers := [] } := ⟨_, rfl⟩
  have hI0 : Inv a0.tmps.size ⟨M.w, M.own, rawV modes vals⟩ M { env := argEnv 0 args, args := raws modes args, σ := σ, nx := M.nx } a0 := by
    refine ⟨⟨?_, RC_raws _ _ _ hargs, hO, rfl⟩, Frame.refl _ _, by rw [ha0], rfl⟩
    refine argEnv_ok args vals 0 hargs fun j v hj => ?_
    have hj' : j < vals.length := (List.getElem?_eq_some_iff.1 hj).1
    rw [ha0]
    simp only [tmv, Nat.zero_add, Array.getD_eq_getD_getElem?]
    rw [Array.getElem?_append_left (by simpa using hj')]
    simp [hj]
  obtain ⟨M1, hw1, hI1, _⟩ := pack_ok hp hI0
  have hd' : dstOk a0.tmps.size c = true := by
    have hle : fn.ntmps ≤ a0.tmps.size := by rw [ha0]; simp; omega
    exact dstOk_mono hle c hd
  simp only [List.all_eq_true] at hres3
  have hcl' : cl < a0.tmps.size := by rw [ha0]; simp; omega
  rw [← hg] at hy
  refine .inr ⟨?_, ?_⟩
  · have h1 : fn.name ≠ "runtime.NumGoroutine" := by simpa using hname
    simp [callFunc, hf, h1, hb]
  · refine calls_of_wp hf hb ?_
    rw [← ha0, show M.w = M1.w from hw1.symm]
    unfold funBodyC at hy
    refine abs_sound hC (loops_ok (hls _ _ hd')) c _ _ y M1 a0 _ hy hI1 hd' hl fun e s' M' a' he hI' => ?_
    -- the end
    have fin : finCell C cl CT s' (packOut outs .ret) = some y → ∃ v, (results fn a'.tmps).run P M'.w = .ok v M'.w ∧ ∃ u, Ending.returned v = .returned u ∧ After M modes vals (packRes (renL (shift M.nx) ((outOf outs y).2.env.map (·.2)))) (renL (shift M.nx) (outOf outs y).2.args) (renSto (shift M.nx) (outOf outs y).2.σ) (shift M.nx (outOf outs y).2.nx) u M'.w := by
      intro hpo
      obtain ⟨s2, v, hpo, hI2', hrun, htv⟩ := finCell_ok hC.toCtxOk0 hI' hcl' hpo hres
      obtain ⟨p, x1, q1, q2, q3⟩ := packOut_ok outs _ _ _ hpo
      obtain ⟨M2, hw2, hI2, hRC⟩ := pack_ok q2 hI2'
      rw [q3]
      have henv : p.2.env = [cl] := by simpa using hres3 p q1
      rw [henv] at hRC
      have hren := shift_ren M M2
      have himm := shift_imm M M2
      have hRC2 := RC_ren hren _ _ (.inl himm) hRC
      refine ⟨_, hrun, _, rfl, M.shift M2, hw2, ?_, fun i hi => by simp [Mem.shift, hi], ?_, ?_, RC_ren hren _ _ (.inl himm) hI2.holds.args, OS1_ren hren (.inl himm) hI2.holds.objs⟩
      · show shift M.nx M2.nx = shift M.nx (p.2.fill x1).nx
        rw [hI2.holds.nx]
      · have := Ren.frame (f := shift M.nx) (g := fun i => i - M.nx) (M := M2) (M2 := M.shift M2) hI2.frame rfl (fun b => rfl)
        rw [← hw2]
        exact this
      · generalize renL (shift M.nx) ((p.2.fill x1).env.map (·.2)) = res at hRC2
        simp only [List.map_cons, List.map_nil] at hRC2
        rw [htv] at hRC2
        match res, hRC2 with
        | [], h => simp [RC] at h
        | [x], h => simp only [RC] at h; exact h.1
        | x :: y :: l, h => simp [RC] at h
    cases e with
    | exit id => cases he
    | normal => exact ⟨hI'.defers, fin he⟩
    | ret => exact ⟨hI'.defers, fin he⟩


/-- What sound_of asks, for a result in a cell. -/
def funBC (fn : Func) (c : Code) (cl : Nat) (outs : List (Ex × Sh)) : Bool :=
  !(fn.name == "runtime.NumGoroutine") && (dstOk fn.ntmps c && (noDup (loopIds c) && (Nat.blt cl fn.ntmps && outs.all fun p => p.2.env == [cl])))

theorem sound_ofC {P : Program} {C : Ctx} (hC : CtxOk P C) {f : FuncId} {fn : Func} {c : Code} (hf : P.funcs[f]? = some fn) (hb : fn.body = some c) {ins : Sh} {outs : List (Ex × Sh)} {modes : List Bool} {fits : List AV → Sto → Bool} {g : ins.den → Option (Out outs)}
    {cl : Nat} {CT : TypeId} (hres : fn.results = #[.cell cl CT]) (hB : funBC fn c cl outs = true) {ls : List (Nat × LoopF)} (hls : LoopsOf P C c ls) (hg : ∀ x, funBodyC C (loopsOf ls) c cl CT (ins.fill x) outs = g x) : SoundF P f ⟨modes, fits, typed modes ins outs g⟩ := by
  simp only [funBC, Bool.and_eq_true, Bool.not_eq_true', Nat.blt_eq] at hB
  obtain ⟨h1, h2, h3, h4, h5⟩ := hB
  have hl : LoopsIn c c := loopsIn_of c h3 fun _ _ => rfl
  exact fun_soundC hC hf h1 hb h2 hl hres h4 h5 (fun N w0 hd => hls hC hl N w0 hd) hg

end Go.Lift
