import Derived.Test.YtbdbjamebjbhnaaLStep2
set_option linter.all false
/- STEPS: what pointers point at. -/
namespace Go.Lift

theorem add_plain (b off n : Nat) : (⟨b, off, none⟩ : Addr).add n = ⟨b, off + n, none⟩ := by
  unfold Addr.add
  split
  · subst_vars; rfl
  · rfl


section
variable {P : Program} {C : Ctx} {N : Nat} {w0 : Entry} {M : Mem} {s : St} {a : Act} {quiet : Bool} {o : Oper} {R' : Type} {k : St → Option R'} {r : R'}
  {K : Act → World → Prop} {Q : Exit → Act → World → Prop} {w : World}

theorem run_loadCellsFrom {b off : Nat} : ∀ (n i : Nat) (cs : List Value) (acc : Array Value), cs.length = n → (∀ (j : Nat) (v : Value), cs[j]? = some v → w.cell? ⟨b, off + (i + j), none⟩ = some v) →
    (loadCellsFrom ⟨b, off, none⟩ i n acc).run P w = .ok (acc ++ cs.toArray) w
  | 0, i, cs, acc, hl, _ => by
    have : cs = [] := List.eq_nil_of_length_eq_zero hl
    subst this
    simp [loadCellsFrom]
  | n + 1, i, cs, acc, hl, hc => by
    cases cs with
    | nil => simp at hl
    | cons v cs =>
      have h0 := hc 0 v (by simp)
      have ih := run_loadCellsFrom n (i + 1) cs (acc.push v) (by simpa using hl) (fun j u hj => by
        have := hc (j + 1) u (by simpa using hj)
        rwa [show i + (j + 1) = i + 1 + j by omega] at this)
      simp only [loadCellsFrom, Sem.run_bind, add_plain, load, Sem.run]
      simp only [Nat.add_zero] at h0
      simp only [h0, Result.andThen_ok, ih]
      simp

theorem run_loadCells {b off n : Nat} {cs : List Value} (hl : cs.length = n) (hc : cellsAt w b off cs) : (loadCells ⟨b, off, none⟩ n).run P w = .ok cs.toArray w := by
  rw [loadCells, run_loadCellsFrom n 0 cs #[] hl (fun j v hj => by rw [Nat.zero_add]; exact hc j v hj)]
  simp

theorem run_loadVar {T : TypeId} {t : Ty} (hT : TyOk P T t) {b off : Nat} {cs : List Value} (hl : cs.length = t.size) (hc : cellsAt w b off cs) : (loadVar T ⟨b, off, none⟩).run P w = .ok (valOf t cs) w := by
  simp only [loadVar, Sem.run_bind, hT.run_isAgg, Result.andThen_ok]
  by_cases ha : t.isAgg = true
  · simp only [ha, if_true, Sem.run_bind, hT.run_sizeOf, Result.andThen_ok, run_loadCells hl hc, Sem.run_pure, valOf]
  · have ha' : t.isAgg = false := by simpa using ha
    have h1 : t.size = 1 := by cases t <;> simp_all [Ty.isAgg, Ty.size]
    rw [h1] at hl
    obtain ⟨v, rfl⟩ := List.length_eq_one_iff.1 hl
    have := hc 0 v (by simp)
    simp only [Nat.add_zero] at this
    simp [ha', load, Sem.run, this, valOf]

theorem tgt_ok (hO : OS1 M s.σ) {av : AV} {g : Tgt} {v : Value} (h : tgt s.σ av = some g) (hR : R M av v) : R M g.toAV v := by
  unfold tgt at h
  split at h
  · rename_i i x
    simp only [R] at hR
    obtain ⟨cs, h1, h2, rfl, _⟩ := hR
    have ho := (hO i).2
    have hv : v = M.φ i := by rw [h1]; rfl
    split at h
    · rename_i T t y hl
      cases h
      rw [hl] at ho
      obtain ⟨b, cur, k1, _⟩ := ho
      simp only [Tgt.toAV, R]
      exact ⟨h2, trivial, b, k1, by rw [hv, k1]; rfl⟩
    · rename_i t y hl
      cases h
      rw [hl] at ho
      obtain ⟨_, b, cur, k1, _⟩ := ho
      simp only [Tgt.toAV, R]
      exact ⟨h2, trivial, b, k1, by rw [hv, k1]; rfl⟩
    · cases h
  · cases h; exact hR
  · cases h; exact hR
  · cases h; exact hR
  · cases h

/-- What lies at a target. -/
theorem tgt_readO (hO : OS1 M s.σ) {g : Tgt} {z : Dat} {v : Value} (hR : R M g.toAV v) (hz : tgtD s.σ g = some z) :
    ∃ b off cs, v = .pointer (some ⟨b, off, none⟩) ∧ b < M.w.heap.size ∧ cellsAt M.w b off cs ∧ rep M z.t cs z.x ∧ ∀ t', M.own b = .atl t' → t' + 1 = g.rid := by
  cases g with
  | imm t x =>
    simp only [tgtD, Option.some.injEq] at hz
    subst hz
    simp only [Tgt.toAV, R] at hR
    obtain ⟨cs, h1, he, b, off, cs', rfl, h2, h3, h4, h5⟩ := hR
    exact ⟨b, off, cs', by rw [h1]; rfl, h2, h4, h5, fun t' e => by rw [h3] at e; cases e⟩
  | obj i t p =>
    simp only [Tgt.toAV, R] at hR
    obtain ⟨h1, h2, b, h3, h4⟩ := hR
    have ho := (hO i).2
    simp only [tgtD] at hz
    cases hl : lkO s.σ i <;> simp only [hl] at hz ho <;> try (cases hz; done)
    · rename_i T t' x
      cases hc : t.shape.beq t'.shape <;> simp only [hc, cond_true, cond_false] at hz
      · cases hz
      obtain ⟨b', cur, k1, k2, k3, k4⟩ := ho
      rw [h3] at k1
      cases k1
      obtain ⟨p1, p2⟩ := path_shape p (Ty.beq_eq hc) h2
      refine ⟨b, _, _, h4, heap_lt k3, ?_, rep_get p (o := ⟨t', x⟩) k4 hz p1, fun t' e => by rw [k2] at e; cases e; rfl⟩
      rw [← p2]
      exact cellsAt_block k3 _ _
    · rename_i t' x
      cases hc : t.shape.beq t'.shape <;> simp only [hc, cond_true, cond_false] at hz
      · cases hz
      obtain ⟨_, b', cs, k1, k2, k3, k4, k5⟩ := ho
      rw [h3] at k1
      cases k1
      obtain ⟨p1, p2⟩ := path_shape p (Ty.beq_eq hc) h2
      refine ⟨b, _, _, h4, k2, ?_, rep_get p (o := ⟨t', x⟩) k5 hz p1, fun t' e => by rw [k3] at e; cases e⟩
      rw [← p2]
      simpa using cellsAt_sub k4 (t'.off p) z.t.size
  | elem i e j q =>
    simp only [Tgt.toAV, R] at hR
    obtain ⟨h1, h2, g, n, cap, h3, h4, h5⟩ := hR
    have ho := (hO i).2
    simp only [tgtD] at hz
    cases hl : lkO s.σ i <;> simp only [hl] at hz ho <;> try (cases hz; done)
    · rename_i T e' l
      cases hc : e.beq e' <;> simp only [hc, cond_true, cond_false] at hz
      · cases hz
      have := Ty.beq_eq hc
      subst this
      obtain ⟨he, ad, cap', k1, k2, k3, k4⟩ := ho
      rw [h3] at k1
      simp only [Value.slice.injEq] at k1
      obtain ⟨rfl, rfl, rfl⟩ := k1
      rcases k4 with ⟨k4, _⟩ | ⟨g', cur, css, e1, e2, e3, e4, e5, e6⟩
      · cases k4
      · cases e1
        have hel := elem_drop j e.zero e6 h4
        have hr := rep_get (o := ⟨e, l.getD j e.zero⟩) q hel hz h2
        refine ⟨g, _, _, h5, heap_lt e3, ?_, hr, fun t' e => by rw [e2] at e; cases e; rfl⟩
        have hc := cellsAt_of_block e3 e5
        have := cellsAt_sub (cellsAt_sub hc (j * e.size) e.size) (e.off q) z.t.size
        simpa using this
    · rename_i e' l
      cases hc : e.beq e' <;> simp only [hc, cond_true, cond_false] at hz
      · cases hz
      have := Ty.beq_eq hc
      subst this
      obtain ⟨he, ad, cap', k1, k2, k3, k4, k5⟩ := ho
      rw [h3] at k1
      simp only [Value.slice.injEq] at k1
      obtain ⟨rfl, rfl, rfl⟩ := k1
      obtain ⟨g', css, e1, e2, e3, e4, e5⟩ := k5 _ rfl
      cases e1
      have hel := elem_drop j e.zero e5 h4
      have hr := rep_get (o := ⟨e, l.getD j e.zero⟩) q hel hz h2
      refine ⟨g, _, _, h5, e2, ?_, hr, fun t' e => by rw [e3] at e; cases e⟩
      have := cellsAt_sub (cellsAt_sub e4 (j * e.size) e.size) (e.off q) z.t.size
      simpa using this

theorem tgt_read (hO : OS1 M s.σ) {g : Tgt} {z : Dat} {v : Value} (hR : R M g.toAV v) (hz : tgtD s.σ g = some z) :
    ∃ b off cs, v = .pointer (some ⟨b, off, none⟩) ∧ b < M.w.heap.size ∧ cellsAt M.w b off cs ∧ rep M z.t cs z.x := by
  obtain ⟨b, off, cs, h1, h2, h3, h4, _⟩ := tgt_readO hO hR hz
  exact ⟨b, off, cs, h1, h2, h3, h4⟩

theorem step_load (hC : CtxOk0 P C) (hI : Inv N w0 M s a) (hd : ∀ d, o.dst = some d → d < N) (hg : Goes N w0 quiet o s M k r K) {T : TypeId} {x : Operand} (ho : o.op = .load T x)
    (hs : stepOp C quiet o s k = some r) : StillWp P o a M.w K := by
  unfold stepOp at hs
  simp only [ho] at hs
  split at hs
  · rename_i g t hx hT
    cases hz : tgtD s.σ g with
    | none => simp [hz] at hs
    | some z =>
      simp only [hz] at hs
      cases hb : z.t.shape.beq t.shape <;> simp only [hb, cond_true, cond_false] at hs
      · cases hs
      have hR := tgt_ok hI.holds.objs hx (R_ev hI x)
      obtain ⟨b, off, cs, h1, h2, h3, h4⟩ := tgt_read hI.holds.objs hR hz
      have hTy := hC.ty _ _ hT
      have hsh := Ty.beq_eq hb
      refine ⟨valOf t cs, fun b' => b' = b, fun b' hb' => ?_, fun W hW => ?_, put_done hI hd hg ?_ hs⟩
      · subst hb'; exact ⟨by rw [ho]; rfl, h2⟩
      · have hrun := run_loadVar (P := P) (w := W) hTy (b := b) (off := off) (cs := cs) (by rw [rep_length h4, size_of_shape hsh]) (cellsAt_eq (hW b rfl) h3)
        simp [execOp, ho, Instr.loadAt, h1, Instr.sureAddr, hrun]
      · simp only [Dat.av, R]
        exact ⟨cs, by simp only [valOf, isAgg_of_shape hsh], h4⟩
  · cases hs

/-- As step_load; with it whose block is read. -/
theorem step_load_own (hC : CtxOk0 P C) (hI : Inv N w0 M s a) (hd : ∀ d, o.dst = some d → d < N) (hg : Goes N w0 quiet o s M k r K) (hld : isLoad o.op = true)
    (hs : stepOp C quiet o s k = some r) : ∃ (v : Value) (B : Nat → Prop), (∀ b, B b → b < M.w.heap.size ∧ ∀ t, M.own b = .atl t → t + 1 = readOf s o) ∧
      (∀ W : World, (∀ b, B b → W.heap[b]? = M.w.heap[b]?) → (execOp a.eval o).run P W = .ok (.value v) W) ∧ K (a.put o.dst v) M.w := by
  cases ho : o.op with
  | load T x =>
    unfold stepOp at hs
    simp only [ho] at hs
    split at hs
    · rename_i g t hx hT
      cases hz : tgtD s.σ g with
      | none => simp [hz] at hs
      | some z =>
        simp only [hz] at hs
        cases hb : z.t.shape.beq t.shape <;> simp only [hb, cond_true, cond_false] at hs
        · cases hs
        have hR := tgt_ok hI.holds.objs hx (R_ev hI x)
        obtain ⟨b, off, cs, h1, h2, h3, h4, h5⟩ := tgt_readO hI.holds.objs hR hz
        have hTy := hC.ty _ _ hT
        have hsh := Ty.beq_eq hb
        refine ⟨valOf t cs, fun b' => b' = b, fun b' hb' => ?_, fun W hW => ?_, put_done hI hd hg ?_ hs⟩
        · subst hb'
          refine ⟨h2, fun t' e => ?_⟩
          have := h5 t' e
          unfold readOf
          rw [ho]
          simp only [hx]
          exact this
        · have hrun := run_loadVar (P := P) (w := W) hTy (b := b) (off := off) (cs := cs) (by rw [rep_length h4, size_of_shape hsh]) (cellsAt_eq (hW b rfl) h3)
          simp [execOp, ho, Instr.loadAt, h1, Instr.sureAddr, hrun]
        · simp only [Dat.av, R]
          exact ⟨cs, by simp only [valOf, isAgg_of_shape hsh], h4⟩
    · cases hs
  | _ => rw [ho] at hld; simp [isLoad] at hld

theorem run_nilCheck {x : Operand} {b off : Nat} (ho : o.op = .nilCheck x) (h : a.eval x = .pointer (some ⟨b, off, none⟩)) (W : World) : (execOp a.eval o).run P W = .ok (.value (a.eval x)) W := by
  simp only [execOp, ho, h, Sem.run_pure]

theorem step_nilCheck (hI : Inv N w0 M s a) (hd : ∀ d, o.dst = some d → d < N) (hg : Goes N w0 quiet o s M k r K) {x : Operand} (ho : o.op = .nilCheck x)
    (hs : stepOp C quiet o s k = some r) : StillWp P o a M.w K := by
  unfold stepOp at hs
  simp only [ho] at hs
  have hR := R_ev hI x
  split at hs
  · rename_i t o' hx
    rw [Option.bind_eq_some_iff] at hs
    obtain ⟨y, rfl, hs⟩ := hs
    rw [hx] at hR
    simp only [R] at hR
    obtain ⟨cs, h1, he, h2⟩ := hR
    rcases h2 with ⟨h2, _⟩ | ⟨y', h2, b, off, cs', rfl, h3, h4, h5, h6⟩
    · cases h2
    · cases h2
      refine still_value (v := a.eval x) (run_nilCheck ho (by rw [h1]; rfl)) (put_done hI hd hg ?_ hs)
      simp only [R]
      exact ⟨_, h1, he, b, off, cs', rfl, h3, h4, h5, h6⟩
  · cases hx : tgt s.σ (ev s x) with
    | none => simp [hx] at hs
    | some g =>
      simp only [hx] at hs
      cases hz : tgtD s.σ g with
      | none => simp [hz] at hs
      | some z =>
        simp only [hz] at hs
        obtain ⟨b, off, cs, h1, _⟩ := tgt_read hI.holds.objs (tgt_ok hI.holds.objs hx hR) hz
        exact still_value (v := a.eval x) (run_nilCheck ho h1) (put_done hI hd hg hR hs)

def stOff (t : Ty) : Stp → Nat
  | .fld f => fldOff t f
  | .idx i => match t with
    | .arr _ e => i * e.size
    | _ => 0

def StOk (t : Ty) : Stp → Prop
  | .fld f => ∃ u, fldT t f = some u
  | .idx i => ∃ n e, t = .arr n e ∧ i < n

theorem path_snoc {t u : Ty} {p : List Stp} {st : Stp} (hok : t.pathOk p) (hs : t.sub p = some u) (h : StOk u st) : t.pathOk (p ++ [st]) ∧ t.off (p ++ [st]) = t.off p + stOff u st := by
  cases st with
  | fld f => obtain ⟨y, hy⟩ := h; exact sub_snoc_fld p hok hs hy
  | idx i => obtain ⟨n, e, rfl, hi⟩ := h; exact sub_snoc_idx p hok hs hi

theorem stOk_shape {t u : Ty} {st : Stp} (h : t.shape = u.shape) (hs : StOk t st) : StOk u st ∧ stOff u st = stOff t st := by
  cases st with
  | fld f =>
    obtain ⟨y, hy⟩ := hs
    obtain ⟨b, h1, _, h3⟩ := fld_shape h hy
    exact ⟨⟨b, h1⟩, h3⟩
  | idx i =>
    obtain ⟨n, e, rfl, hi⟩ := hs
    cases u <;> simp [Ty.shape] at h
    rename_i m e'
    exact ⟨⟨m, e', rfl, by rw [← h.1]; exact hi⟩, by simp only [stOff, size_of_shape h.2]⟩

theorem get_st {z y : Dat} {st : Stp} (h : z.get [st] = some y) (hs : StOk z.t st) : z.t.pathOk [st] ∧ z.t.off [st] = stOff z.t st := by
  cases st with
  | fld f =>
    obtain ⟨u, hu⟩ := hs
    simp [Ty.pathOk, Ty.off, hu, stOff]
  | idx i =>
    obtain ⟨n, e, ht, hi⟩ := hs
    obtain ⟨zt, zx⟩ := z
    simp only at ht
    subst ht
    simp [Ty.pathOk, Ty.off, stOff, hi]

theorem tgt_step (hO : OS1 M s.σ) {g g' : Tgt} {z : Dat} {b off : Nat} {st : Stp} (hR : R M g.toAV (.pointer (some ⟨b, off, none⟩))) (hz : tgtD s.σ g = some z) (hg : g.step st = some g') (hst : StOk z.t st) :
    R M g'.toAV (.pointer (some ⟨b, off + stOff z.t st, none⟩)) := by
  cases g with
  | imm t x =>
    simp only [tgtD, Option.some.injEq] at hz
    subst hz
    simp only [Tgt.step] at hg
    cases hy : (Dat.mk t x).get [st] with
    | none => simp [hy] at hg
    | some y =>
      simp only [hy, Option.some.injEq] at hg
      subst hg
      simp only [Tgt.toAV, R] at hR ⊢
      obtain ⟨cs, h1, he, b', off', cs', rfl, h2, h3, h4, h5⟩ := hR
      simp only [valOf, Ty.isAgg, Bool.false_eq_true, if_false, List.headD_cons, Value.pointer.injEq, Option.some.injEq, Addr.mk.injEq, and_true] at h1
      obtain ⟨rfl, rfl⟩ := h1
      obtain ⟨p1, p2⟩ := get_st hy hst
      have hr := rep_get [st] (o := ⟨t, x⟩) h5 hy p1
      refine ⟨_, rfl, pure_get [st] he (get_sub [st] hy), b, off + stOff t st, _, rfl, h2, h3, ?_, hr⟩
      rw [← p2]
      exact cellsAt_sub h4 _ _
  | obj i t p =>
    simp only [Tgt.step, Option.some.injEq] at hg
    subst hg
    simp only [Tgt.toAV, R] at hR ⊢
    obtain ⟨h1, h2, b', h3, h4⟩ := hR
    simp only [Value.pointer.injEq, Option.some.injEq, Addr.mk.injEq, and_true] at h4
    obtain ⟨rfl, rfl⟩ := h4
    have key : ∀ t' x, t.shape.beq t'.shape = true → (Dat.mk t' x).get p = some z → t.pathOk (p ++ [st]) ∧ t.off (p ++ [st]) = t.off p + stOff z.t st := by
      intro t' x hb hget
      obtain ⟨u, k1, k2⟩ := sub_shape p (Ty.beq_eq hb).symm (get_sub p hget)
      obtain ⟨k3, k4⟩ := stOk_shape k2 hst
      obtain ⟨k5, k6⟩ := path_snoc h2 k1 k3
      exact ⟨k5, by rw [k6, k4]⟩
    simp only [tgtD] at hz
    have fin : t.pathOk (p ++ [st]) ∧ t.off (p ++ [st]) = t.off p + stOff z.t st := by
      cases hl : lkO s.σ i <;> simp only [hl] at hz <;> try (cases hz; done)
      · rename_i T t' x
        cases hc : t.shape.beq t'.shape <;> simp only [hc, cond_true, cond_false] at hz
        · cases hz
        exact key t' x hc hz
      · rename_i t' x
        cases hc : t.shape.beq t'.shape <;> simp only [hc, cond_true, cond_false] at hz
        · cases hz
        exact key t' x hc hz
    exact ⟨h1, fin.1, b, h3, by rw [fin.2]⟩
  | elem i e j q =>
    simp only [Tgt.step, Option.some.injEq] at hg
    subst hg
    simp only [Tgt.toAV, R] at hR ⊢
    obtain ⟨h1, h2, g', n, cap, h3, h4, h5⟩ := hR
    simp only [Value.pointer.injEq, Option.some.injEq, Addr.mk.injEq, and_true] at h5
    obtain ⟨rfl, rfl⟩ := h5
    have fin : e.pathOk (q ++ [st]) ∧ e.off (q ++ [st]) = e.off q + stOff z.t st := by
      simp only [tgtD] at hz
      cases hl : lkO s.σ i <;> simp only [hl] at hz <;> try (cases hz; done)
      · rename_i T e' l
        cases hc : e.beq e' <;> simp only [hc, cond_true, cond_false] at hz
        · cases hz
        have := Ty.beq_eq hc
        subst this
        exact path_snoc h2 (get_sub q (o := ⟨e, l.getD j e.zero⟩) hz) hst
      · rename_i e' l
        cases hc : e.beq e' <;> simp only [hc, cond_true, cond_false] at hz
        · cases hz
        have := Ty.beq_eq hc
        subst this
        exact path_snoc h2 (get_sub q (o := ⟨e, l.getD j e.zero⟩) hz) hst
    exact ⟨h1, fin.1, b, n, cap, h3, h4, by rw [fin.2, Nat.add_assoc]⟩

theorem step_fieldAddr (hC : CtxOk0 P C) (hI : Inv N w0 M s a) (hd : ∀ d, o.dst = some d → d < N) (hg : Goes N w0 quiet o s M k r K) {S : TypeId} {x : Operand} {f : Nat} (ho : o.op = .fieldAddr S x f)
    (hs : stepOp C quiet o s k = some r) : StillWp P o a M.w K := by
  unfold stepOp at hs
  simp only [ho] at hs
  cases hx : tgt s.σ (ev s x) with
  | none => simp [hx] at hs
  | some g =>
    cases hS : C.ty S with
    | none => simp [hx, hS] at hs
    | some t' =>
      simp only [hx, hS] at hs
      cases hz : tgtD s.σ g with
      | none => simp [hz] at hs
      | some z =>
        cases hst : g.step (.fld f) with
        | none => simp [hz, hst] at hs
        | some g' =>
          simp only [hz, hst] at hs
          cases hf : fldD z.t z.x f with
          | none => simp [hf] at hs
          | some y =>
            simp only [hf] at hs
            cases hc : (z.t.shape.beq t'.shape && Nat.blt 0 y.t.size) <;> simp only [hc, cond_true, cond_false] at hs
            · cases hs
            · simp only [Bool.and_eq_true, Nat.blt_eq] at hc
              have hR := tgt_ok hI.holds.objs hx (R_ev hI x)
              obtain ⟨b, off, cs, h1, h2, h3, h4⟩ := tgt_read hI.holds.objs hR hz
              have hft := fldD_t hf
              obtain ⟨u', k1, k2, k3⟩ := fld_shape (Ty.beq_eq hc.1) hft
              obtain ⟨fs, n, e1, e2⟩ := (hC.ty _ _ hS).under_struct (struct_of_fld k1)
              obtain ⟨fl, e3, e4, e5⟩ := flds_get fs.toList t' n 0 f u' e2 k1
              rw [h1] at hR
              have hg1 := tgt_step hI.holds.objs hR hz hst ⟨_, hft⟩
              have hsz : u'.size ≠ 0 := by rw [← size_of_shape k2]; omega
              refine still_value (v := .pointer (some ⟨b, off + fldOff z.t f, none⟩)) (fun W => ?_) (put_done hI hd hg hg1 hs)
              have e3' : fs[f]? = some fl := by simpa using e3
              simp only [execOp, ho, Sem.run_bind, Instr.fieldAt, run_underlying e1, Result.andThen_ok, e3', h1, Instr.sureAddr, Sem.run_pure, fieldPlace, e5.run_sizeOf, hsz, if_false, add_plain, e4, Nat.zero_add, k3]

theorem run_indexAt_slice {S E : TypeId} {e : Ty} (h : P.underlying S = some (.slice E)) (hE : TyOk P E e) {ad : Addr} {len cap : Nat} {kd : IntKind} {n : Int} (h0 : 0 ≤ n) (h1 : n < len) :
    (Instr.indexAt S (.slice (some ad) len cap) (.int kd n)).run P w = .ok (.pointer (some (ad.add (n.toNat * e.size)))) w := by
  simp [Instr.indexAt, asIntOf, run_underlying h, hE.run_sizeOf, h0, h1]

theorem run_indexAt_arr {S E : TypeId} {m : Nat} {e : Ty} (h : P.underlying S = some (.array m E)) (hE : TyOk P E e) {b off : Nat} {kd : IntKind} {n : Int} (h0 : 0 ≤ n) (h1 : n < m) :
    (Instr.indexAt S (.pointer (some ⟨b, off, none⟩)) (.int kd n)).run P w = .ok (.pointer (some ⟨b, off + n.toNat * e.size, none⟩)) w := by
  simp [Instr.indexAt, asIntOf, run_underlying h, hE.run_sizeOf, h0, h1, add_plain, Instr.sureAddr]

/-- An owned slice, or a part of one: the value, and its elements' place. -/
theorem elemOf_ok (hO : OS1 M s.σ) {av : AV} {i : Nat} {e : Ty} {j len : Nat} {v : Value} (h : elemOf s.σ av = some (i, e, j, len)) (hR : R M av v) :
    i < M.nx ∧ ∃ ad n cap ad', M.φ i = .slice ad n cap ∧ v = .slice ad' len (cap - j) ∧ j + len ≤ n ∧ n ≤ cap ∧ (j < cap → ad' = ad.map (·.add (j * e.size))) ∧ (ad = none ∧ cap = 0 ∨ ∃ g, ad = some ⟨g, 0, none⟩) ∧
      ((∃ T l, lkO s.σ i = .vec T e l ∧ l.length = n) ∨ (∃ l, lkO s.σ i = .ivec e l ∧ l.length = n)) := by
  unfold elemOf at h
  split at h
  · rename_i i' x
    simp only [R] at hR
    obtain ⟨cs, h1, h2, rfl, _⟩ := hR
    have hv : v = M.φ i' := by rw [h1]; rfl
    have ho := (hO i').2
    split at h
    · rename_i T e' l hl
      cases h
      rw [hl] at ho
      obtain ⟨_, ad, cap, k1, k2, _, k4⟩ := ho
      refine ⟨h2, ad, l.length, cap, ad, k1, by rw [hv, k1]; simp, by omega, k2, fun _ => ?_, ?_, .inl ⟨T, l, hl, rfl⟩⟩
      · cases ad with
        | none => rfl
        | some ad => simp [Addr.add]
      · exact k4.imp id fun ⟨g, _, _, hg, _⟩ => ⟨g, hg⟩
    · rename_i e' l hl
      cases h
      rw [hl] at ho
      obtain ⟨_, ad, cap, k1, k2, _, k4, k5⟩ := ho
      refine ⟨h2, ad, l.length, cap, ad, k1, by rw [hv, k1]; simp, by omega, k2, fun _ => ?_, ?_, .inr ⟨l, hl, rfl⟩⟩
      · cases ad with
        | none => rfl
        | some ad => simp [Addr.add]
      · cases ad with
        | none => exact .inl ⟨rfl, k4 rfl⟩
        | some ad => obtain ⟨g, _, hg, _⟩ := k5 ad rfl; exact .inr ⟨g, by rw [hg]⟩
    · cases h
  · rename_i i' e' b c
    simp only [R] at hR
    obtain ⟨h2, ad, n, cap, k1, k2, k3, k4, ad', k5, k6⟩ := hR
    have ho := (hO i').2
    split at h
    · rename_i T e'' l hl
      cases hbe : e'.beq e'' <;> simp only [hbe, cond_true, cond_false] at h
      · cases h
      have := Ty.beq_eq hbe
      subst this
      cases h
      rw [hl] at ho
      obtain ⟨_, ad0, cap0, m1, m2, _, m4⟩ := ho
      rw [k1] at m1
      simp only [Value.slice.injEq] at m1
      obtain ⟨rfl, rfl, rfl⟩ := m1
      exact ⟨h2, ad, l.length, cap, ad', k1, k5, by omega, k4, k6, m4.imp id fun ⟨g, _, _, hg, _⟩ => ⟨g, hg⟩, .inl ⟨T, l, hl, rfl⟩⟩
    · rename_i e'' l hl
      cases hbe : e'.beq e'' <;> simp only [hbe, cond_true, cond_false] at h
      · cases h
      have := Ty.beq_eq hbe
      subst this
      cases h
      rw [hl] at ho
      obtain ⟨_, ad0, cap0, m1, m2, _, m4, m5⟩ := ho
      rw [k1] at m1
      simp only [Value.slice.injEq] at m1
      obtain ⟨rfl, rfl, rfl⟩ := m1
      refine ⟨h2, ad, l.length, cap, ad', k1, k5, by omega, k4, k6, ?_, .inr ⟨l, hl, rfl⟩⟩
      cases ad with
      | none => exact .inl ⟨rfl, m4 rfl⟩
      | some ad => obtain ⟨g, _, hg, _⟩ := m5 ad rfl; exact .inr ⟨g, by rw [hg]⟩
    · cases h
  · cases h

theorem step_indexAddr (hC : CtxOk0 P C) (hI : Inv N w0 M s a) (hd : ∀ d, o.dst = some d → d < N) (hg : Goes N w0 quiet o s M k r K) {S : TypeId} {x i : Operand} (ho : o.op = .indexAddr S x i)
    (hs : stepOp C quiet o s k = some r) : StillWp P o a M.w K := by
  unfold stepOp at hs
  simp only [ho] at hs
  split at hs
  · rename_i kd n q e' hi hS
    have hiv := int_val hI hi
    obtain ⟨E, hu, _, _, hE⟩ := (hC.ty _ _ hS).under_slice
    have hR := R_ev hI x
    split at hs
    · rename_i q' e l hx
      cases hc : (e.shape.beq e'.shape && Nat.blt 0 e.size) <;> simp only [hc, cond_true, cond_false] at hs
      · cases hs
      cases hb : (decide (0 ≤ n) && decide (n < l.length)) <;> simp only [hb, cond_true, cond_false] at hs
      · cases hs
      simp only [Bool.and_eq_true, decide_eq_true_eq] at hb hc
      rw [hx] at hR
      simp only [R] at hR
      obtain ⟨cs, e1, he, ad, cap, rfl, _, _, _, _, _, k3⟩ := hR
      have hin : Int.toNat n < l.length := toNat_lt hb.1 hb.2
      have hnl : l ≠ [] := fun e0 => by rw [e0] at hin; simp at hin
      obtain ⟨b, off, css, rfl, m1, m2, m3, m4⟩ := k3 hnl
      have hev : a.eval x = .slice (some ⟨b, off, none⟩) l.length cap := by rw [e1]; rfl
      have hsz := size_of_shape (Ty.beq_eq hc.1)
      have hrun := fun W => run_indexAt_slice (P := P) (w := W) hu hE (ad := ⟨b, off, none⟩) (cap := cap) (kd := kd) hb.1 hb.2
      refine still_value (v := .pointer (some ⟨b, off + n.toNat * e'.size, none⟩)) (fun W => by simp only [execOp, ho, hev, hiv, Sem.run_bind, hrun, Result.andThen_ok, Sem.run_pure, add_plain]) (put_done hI hd hg ?_ hs)
      simp only [R]
      refine ⟨_, rfl, he, b, off + n.toNat * e'.size, _, rfl, m1, m2, ?_, elem_drop n.toNat e.zero m4 hin⟩
      rw [← hsz]
      exact cellsAt_sub m3 _ _
    · rename_i hnx
      split at hs
      · rename_i id e j len hel
        cases hc : e.shape.beq e'.shape <;> simp only [hc, cond_true, cond_false] at hs
        · cases hs
        cases hb : (decide (0 ≤ n) && decide (n < len)) <;> simp only [hb, cond_true, cond_false] at hs
        · cases hs
        simp only [Bool.and_eq_true, decide_eq_true_eq] at hb
        obtain ⟨h1, ad, n', cap, ad', h2, h3, h4, h5, h6, h7, _⟩ := elemOf_ok hI.holds.objs hel hR
        have hsz := size_of_shape (Ty.beq_eq hc)
        have hin : Int.toNat n < len := toNat_lt hb.1 hb.2
        have hjc : j < cap := by omega
        rcases h7 with ⟨_, h7⟩ | ⟨g, rfl⟩
        · omega
        have had : ad' = some ⟨g, 0 + j * e.size, none⟩ := by rw [h6 hjc]; simp [add_plain]
        have hrun := fun W => run_indexAt_slice (P := P) (w := W) hu hE (ad := ⟨g, 0 + j * e.size, none⟩) (cap := cap - j) (kd := kd) hb.1 hb.2
        refine still_value (v := .pointer (some ⟨g, 0 + j * e.size + n.toNat * e'.size, none⟩)) (fun W => by simp only [execOp, ho, h3, had, hiv, Sem.run_bind, hrun, Result.andThen_ok, Sem.run_pure, add_plain]) (put_done hI hd hg ?_ hs)
        simp only [R]
        refine ⟨h1, trivial, g, n', cap, h2, by omega, ?_⟩
        simp only [Ty.off, Nat.zero_add, Nat.add_zero, Value.pointer.injEq, Option.some.injEq, Addr.mk.injEq, true_and, and_true]
        rw [← hsz, Nat.add_mul]
      · cases hs
  · rename_i kd n m' e' hi hS
    have hiv := int_val hI hi
    obtain ⟨E, hu, hE⟩ := (hC.ty _ _ hS).under_arr
    cases hx : tgt s.σ (ev s x) with
    | none => simp [hx] at hs
    | some g =>
      simp only [hx] at hs
      cases hz : tgtD s.σ g with
      | none => simp [hz] at hs
      | some z =>
        obtain ⟨t, l⟩ := z
        simp only [hz] at hs
        cases t <;> simp only at hs <;> try (cases hs; done)
        rename_i m e
        cases hc : (Nat.beq m m' && e.shape.beq e'.shape && Nat.blt 0 e.size) <;> simp only [hc, cond_true, cond_false] at hs
        · cases hs
        cases hb : (decide (0 ≤ n) && decide (n < m)) <;> simp only [hb, cond_true, cond_false] at hs
        · cases hs
        simp only [Bool.and_eq_true, decide_eq_true_eq, Nat.blt_eq] at hb hc
        cases hst : g.step (.idx n.toNat) with
        | none => simp [hst] at hs
        | some g' =>
          simp only [hst] at hs
          have hR := tgt_ok hI.holds.objs hx (R_ev hI x)
          obtain ⟨b, off, cs, h1, h2, h3, h4⟩ := tgt_read hI.holds.objs hR hz
          rw [h1] at hR
          have hin : Int.toNat n < m := toNat_lt hb.1 hb.2
          have hg1 := tgt_step hI.holds.objs hR hz hst ⟨m, e, rfl, hin⟩
          have hsz := size_of_shape (Ty.beq_eq hc.1.2)
          have hm : m = m' := Nat.eq_of_beq_eq_true hc.1.1
          have hrun := fun W => run_indexAt_arr (P := P) (w := W) hu hE (b := b) (off := off) (kd := kd) hb.1 (by rw [← hm]; exact hb.2)
          simp only [stOff] at hg1
          rw [hsz] at hg1
          exact still_value (v := .pointer (some ⟨b, off + n.toNat * e'.size, none⟩)) (fun W => by simp only [execOp, ho, h1, hiv, Sem.run_bind, hrun, Result.andThen_ok, Sem.run_pure]) (put_done hI hd hg hg1 hs)
  · cases hs

end
end Go.Lift
