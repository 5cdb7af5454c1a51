import Derived.Test.YtbdbjamebjbhnaaLStep1
set_option linter.all false
/- STEPS: values out of values. -/
namespace Go.Lift

structure CtxOk0 (P : Program) (C : Ctx) : Prop where
  ty : ∀ T t, C.ty T = some t → TyOk P T t
  bytes : ∀ T q e E i, C.ty T = some (.slice q e) → P.underlying T = some (.slice E) → P.info? E = some i → i.bytes = C.bytes T
  elem : ∀ T q e E, C.ty T = some (.slice q e) → P.underlying T = some (.slice E) → E = C.elem T
  eqs : ∀ T, memN T C.eqs = true → EqFact P T ∧ ∀ t, C.ty T = some t → plainB t = true

theorem flds_get {P : Program} : ∀ (fs : List Field) (t : Ty) (n off f : Nat) (u : Ty), fldsOkB P n fs t off = true → fldT t f = some u → ∃ fl, fs[f]? = some fl ∧ fl.offset = off + fldOff t f ∧ TyOk P fl.type u
  | [], t, n, off, f, u, h, hf => by
    cases n with
    | zero => simp [fldsOkB] at h
    | succ n =>
      cases t <;> first | (simp [fldsOkB] at h; done) | (cases f <;> simp [fldT] at hf; done)
  | fl :: fs, t, n, off, f, u, h, hf => by
    cases n with
    | zero => simp [fldsOkB] at h
    | succ n =>
      cases t <;> simp [fldsOkB] at h
      rename_i a b
      obtain ⟨⟨h1, h2⟩, h3⟩ := h
      cases f with
      | zero => simp only [fldT, Option.some.injEq] at hf; subst hf; exact ⟨fl, rfl, by simp [fldOff, h1], n, h2⟩
      | succ f =>
        simp only [fldT] at hf
        obtain ⟨fl', e1, e2, e3⟩ := flds_get fs b n (off + a.size) f u h3 hf
        exact ⟨fl', by simpa using e1, by simp only [fldOff]; omega, e3⟩

theorem struct_of_fld {t : Ty} {f : Nat} {u : Ty} (h : fldT t f = some u) : t = .nil ∨ ∃ a b, t = .cons a b := by
  cases t <;> first | exact .inl rfl | exact .inr ⟨_, _, rfl⟩ | (cases f <;> simp [fldT] at h)

theorem sub_snoc_fld : ∀ (p : List Stp) {t z u : Ty} {f : Nat}, t.pathOk p → t.sub p = some z → fldT z f = some u →
    t.pathOk (p ++ [.fld f]) ∧ t.off (p ++ [.fld f]) = t.off p + fldOff z f
  | [], t, z, u, f, _, hs, hf => by
    simp only [Ty.sub, Option.some.injEq] at hs
    subst hs
    simp [Ty.pathOk, Ty.off, hf]
  | .fld k :: p, t, z, u, f, hok, hs, hf => by
    simp only [Ty.sub] at hs
    simp only [Ty.pathOk] at hok
    cases hk : fldT t k with
    | none => simp [hk] at hs
    | some y =>
      simp only [hk] at hs hok
      obtain ⟨h1, h2⟩ := sub_snoc_fld p hok hs hf
      simp only [List.cons_append, Ty.pathOk, Ty.off, hk]
      exact ⟨h1, by omega⟩
  | .idx i :: p, t, z, u, f, hok, hs, hf => by
    cases t <;> simp only [Ty.sub] at hs <;> try (cases hs; done)
    rename_i n e
    simp only [Ty.pathOk] at hok
    obtain ⟨h1, h2⟩ := sub_snoc_fld p hok.2 hs hf
    simp only [List.cons_append, Ty.pathOk, Ty.off]
    exact ⟨⟨hok.1, h1⟩, by omega⟩

theorem sub_snoc_idx : ∀ (p : List Stp) {t e : Ty} {n i : Nat}, t.pathOk p → t.sub p = some (.arr n e) → i < n →
    t.pathOk (p ++ [.idx i]) ∧ t.off (p ++ [.idx i]) = t.off p + i * e.size
  | [], t, e, n, i, _, hs, hi => by
    simp only [Ty.sub, Option.some.injEq] at hs
    subst hs
    simp [Ty.pathOk, Ty.off, hi]
  | .fld k :: p, t, e, n, i, hok, hs, hi => by
    simp only [Ty.sub] at hs
    simp only [Ty.pathOk] at hok
    cases hk : fldT t k with
    | none => simp [hk] at hs
    | some y =>
      simp only [hk] at hs hok
      obtain ⟨h1, h2⟩ := sub_snoc_idx p hok hs hi
      simp only [List.cons_append, Ty.pathOk, Ty.off, hk]
      exact ⟨h1, by omega⟩
  | .idx j :: p, t, e, n, i, hok, hs, hi => by
    cases t <;> simp only [Ty.sub] at hs <;> try (cases hs; done)
    rename_i m e'
    simp only [Ty.pathOk] at hok
    obtain ⟨h1, h2⟩ := sub_snoc_idx p hok.2 hs hi
    simp only [List.cons_append, Ty.pathOk, Ty.off]
    exact ⟨⟨hok.1, h1⟩, by omega⟩


section
variable {P : Program} {C : Ctx} {N : Nat} {w0 : Entry} {M : Mem} {s : St} {a : Act} {quiet : Bool} {o : Oper} {R' : Type} {k : St → Option R'} {r : R'}
  {K : Act → World → Prop} {Q : Exit → Act → World → Prop}

theorem step_move (hI : Inv N w0 M s a) (hd : ∀ d, o.dst = some d → d < N) (hg : Goes N w0 quiet o s M k r K) {x : Operand} (ho : o.op = .move x)
    (hs : stepOp C quiet o s k = some r) : StillWp P o a M.w K := by
  unfold stepOp at hs
  simp only [ho] at hs
  exact still_value (v := a.eval x) (fun W => by simp [execOp, ho]) (put_done hI hd hg (R_ev hI x) hs)

theorem step_assign (hI : Inv N w0 M s a) (hd : ∀ d, o.dst = some d → d < N) (hg : Goes N w0 quiet o s M k r K) {x : Operand} (ho : o.op = .assign x)
    (hs : stepOp C quiet o s k = some r) : StillWp P o a M.w K := by
  unfold stepOp at hs
  simp only [ho] at hs
  exact still_value (v := a.eval x) (fun W => by simp [execOp, ho]) (put_done hI hd hg (R_ev hI x) hs)

theorem step_pick (hI : Inv N w0 M s a) (hd : ∀ d, o.dst = some d → d < N) (hg : Goes N w0 quiet o s M k r K) {c x y : Operand} (ho : o.op = .pick c x y)
    (hs : stepOp C quiet o s k = some r) : StillWp P o a M.w K := by
  unfold stepOp at hs
  simp only [ho] at hs
  split at hs
  · rename_i c' x' y' h1 h2 h3
    have hr : ∀ W, (execOp a.eval o).run P W = .ok (.value (.bool (bif c' then x' else y'))) W := fun W => by
      simp only [execOp, ho, bool_ok hI h1, bool_ok hI h2, bool_ok hI h3, asBool]
      cases c' <;> simp
    exact still_value hr (put_bool hI hd hg hs)
  · rename_i c' x' h1 h2 h3
    cases c'
    · cases hs
    have hr : ∀ W, (execOp a.eval o).run P W = .ok (.value (.bool x')) W := fun W => by
      simp only [execOp, ho, bool_ok hI h1, bool_ok hI h2, asBool]
      simp
    exact still_value hr (put_bool hI hd hg hs)
  · rename_i c' y' h1 h2 h3
    cases c'
    · have hr : ∀ W, (execOp a.eval o).run P W = .ok (.value (.bool y')) W := fun W => by
        simp only [execOp, ho, bool_ok hI h1, bool_ok hI h3, asBool]
        simp
      exact still_value hr (put_bool hI hd hg hs)
    · cases hs
  · cases hs

/-- What an operand is seen as, everything let go. -/
theorem viewed (hI : Inv N w0 M s a) {x : Operand} {z : Dat} (h : viewA s.σ (ev s x) = some z) : ∃ cs, a.eval x = valOf z.t cs ∧ z.t.pure = true ∧ rep M.all z.t cs z.x :=
  viewA_ok hI.holds.objs (Sees.all M _) h (R_ev hI x)

theorem viewed_int (hI : Inv N w0 M s a) {x : Operand} {kd : IntKind} {n : Int} (h : viewA s.σ (ev s x) = some ⟨.int kd, n⟩) : a.eval x = .int kd n := by
  obtain ⟨cs, h1, _, h2⟩ := viewed hI h
  rw [show cs = _ from h2] at h1
  exact h1
theorem viewed_bool (hI : Inv N w0 M s a) {x : Operand} {n : Bool} (h : viewA s.σ (ev s x) = some ⟨.bool, n⟩) : a.eval x = .bool n := by
  obtain ⟨cs, h1, _, h2⟩ := viewed hI h
  rw [show cs = _ from h2] at h1
  exact h1
theorem viewed_str (hI : Inv N w0 M s a) {x : Operand} {n : List UInt8} (h : viewA s.σ (ev s x) = some ⟨.str, n⟩) : a.eval x = .string ⟨n.toArray⟩ := by
  obtain ⟨cs, h1, _, h2⟩ := viewed hI h
  rw [show cs = _ from h2] at h1
  exact h1

theorem step_unOp (hI : Inv N w0 M s a) (hd : ∀ d, o.dst = some d → d < N) (hg : Goes N w0 quiet o s M k r K) {op : UnOp} {T : TypeId} {x : Operand} (ho : o.op = .unOp op T x)
    (hs : stepOp C quiet o s k = some r) : StillWp P o a M.w K := by
  unfold stepOp at hs
  simp only [ho] at hs
  cases hv : viewA s.σ (ev s x) with
  | none => simp [hv] at hs
  | some z =>
    simp only [hv] at hs
    cases hu : unDat op z with
    | none => simp [hu] at hs
    | some y =>
      simp only [hu] at hs
      unfold unDat at hu
      split at hu <;> cases hu
      · have e := viewed_int hI hv
        refine still_value (fun W => ?_) (put_simple (z := ⟨.int _, _⟩) hI hd hg trivial hs)
        simp [execOp, ho, e, Op.unary, Op.intArith, Dat.val]
      · have e := viewed_int hI hv
        refine still_value (fun W => ?_) (put_simple (z := ⟨.int _, _⟩) hI hd hg trivial hs)
        simp [execOp, ho, e, Op.unary, Op.intBits, Dat.val]
      · have e := viewed_bool hI hv
        refine still_value (fun W => ?_) (put_simple (z := ⟨.bool, _⟩) hI hd hg trivial hs)
        simp [execOp, ho, e, Op.unary, Dat.val]

theorem step_convert (hC : CtxOk0 P C) (hI : Inv N w0 M s a) (hd : ∀ d, o.dst = some d → d < N) (hg : Goes N w0 quiet o s M k r K) {S T : TypeId} {x : Operand} (ho : o.op = .convert S T x)
    (hs : stepOp C quiet o s k = some r) : StillWp P o a M.w K := by
  unfold stepOp at hs
  simp only [ho] at hs
  split at hs
  · rename_i kd n kd' k' h1 h2 h3
    have e := int_val hI h1
    refine still_value (v := .int k' (k'.wrap n)) (fun W => ?_) (put_int hI hd hg hs)
    have hS := run_underlying (P := P) (w := W) (hC.ty _ _ h2).under_int
    have hT := run_underlying (P := P) (w := W) (hC.ty _ _ h3).under_int
    simp [execOp, ho, e, convert, hS, hT, Conv.intToInt]
  · cases hs

theorem eqTy_ok (hC : CtxOk0 P C) {T : TypeId} {t : Ty} (h : eqTy C T t = true) (ht : ∀ kd, t ≠ .int kd) (hs : t ≠ .str) : TyOk P T t ∧ (t.isAgg = true → EqFact P T ∧ plainB t = true) := by
  have h' : (match C.ty T with
    | some t' => t'.beq t && (!t.isAgg || memN T C.eqs)
    | none => false) = true := by
    unfold eqTy at h
    split at h
    · exact absurd rfl (ht _)
    · exact absurd rfl hs
    · exact h
  cases hT : C.ty T with
  | none => simp [hT] at h'
  | some t' =>
    simp only [hT, Bool.and_eq_true, Bool.or_eq_true, Bool.not_eq_true'] at h'
    have e := Ty.beq_eq h'.1
    subst e
    refine ⟨hC.ty _ _ hT, fun ha => ?_⟩
    have hm : memN T C.eqs = true := by
      rcases h'.2 with h2 | h2
      · rw [ha] at h2; cases h2
      · exact h2
    obtain ⟨h3, h4⟩ := hC.eqs T hm
    exact ⟨h3, h4 _ hT⟩

theorem run_equal_struct {T : TypeId} {t : Ty} (hT : TyOk P T t) (he : EqFact P T) (hp : plainB t = true) (ht : t.isAgg = true) {xs ys : List Value} {x y : t.den} {q : Bool} {M M' : Mem}
    (hx : rep M t xs x) (hy : rep M' t ys y) (hq : eqD t x y = some q) (W : World) : (Op.equalIn 10000 T (.agg xs.toArray) (.agg ys.toArray)).run P W = .ok q W := by
  have hcons : t = .nil ∨ ∃ a b, t = .cons a b := by cases t <;> simp_all [Ty.isAgg, plainB]
  obtain ⟨fs, n, h1, h2⟩ := hT.under_struct hcons
  have hf : P.fieldsOf T = fs := by simp [Program.fieldsOf, h1]
  have h3 := run_equalIn_struct (P := P) W 9999 T xs.toArray ys.toArray (by rw [hf]; exact h1) he.held
  rw [h3, hf]
  exact eqFields_ok (d := 9998) W fs.toList t n 0 x y q h2 (by have := he.names; rwa [hf] at this) hp (by simpa using hx) (by simpa using hy) hq

theorem sureInt_ok {op : BinOp} {y : Operand} {g : Bool} {x n : Int} {kd : IntKind} {z : Dat} (hsh : isShift op = false) (h : sureInt op y g = true) (hb : binInt op kd x n = some (g, z)) (hy : a.eval y = .int kd n) : g = true := by
  unfold sureInt at h
  split at h
  · rename_i kd' m
    simp only [Act.eval, Value.int.injEq] at hy
    obtain ⟨rfl, rfl⟩ := hy
    cases hm : (m == 0) <;> simp only [hm, cond_true, cond_false] at h
    · simp only [binInt, Option.some.injEq, Prod.mk.injEq] at hb
      rw [← hb.1]
      simp only [bne, hm, Bool.not_false]
    · exact h
  · rename_i kd' m
    simp only [Act.eval, Value.int.injEq] at hy
    obtain ⟨rfl, rfl⟩ := hy
    cases hm : (m == 0) <;> simp only [hm, cond_true, cond_false] at h
    · simp only [binInt, Option.some.injEq, Prod.mk.injEq] at hb
      rw [← hb.1]
      simp only [bne, hm, Bool.not_false]
    · exact h
  · exact h

theorem sureInt_g {op : BinOp} {y : Operand} {g : Bool} (h : sureInt op y g = true) (hop : op ≠ .quo) (hop' : op ≠ .rem) : g = true := by
  unfold sureInt at h
  split at h
  · exact absurd rfl hop
  · exact absurd rfl hop'
  · exact h

theorem step_binDat (hC : CtxOk0 P C) (hI : Inv N w0 M s a) (hd : ∀ d, o.dst = some d → d < N) (hg : Goes N w0 quiet o s M k r K) {op : BinOp} {T U : TypeId} {x y : Operand} (ho : o.op = .binOp op T x y U)
    (hs : (match viewA s.σ (ev s x), viewA s.σ (ev s y) with
      | some a, some b => match binDat op a b with
        | some (g, z) => bif eqTy C T a.t then bif sureInt op y g then k (s.put o.dst z.av) else none else none
        | none => none
      | _, _ => none) = some r) : StillWp P o a M.w K := by
  cases hx : viewA s.σ (ev s x) with
  | none => simp [hx] at hs
  | some z =>
    cases hy : viewA s.σ (ev s y) with
    | none => simp [hx, hy] at hs
    | some z' =>
      simp only [hx, hy] at hs
      cases hb : binDat op z z' with
      | none => simp [hb] at hs
      | some p =>
        obtain ⟨g, u⟩ := p
        simp only [hb] at hs
        cases het : eqTy C T z.t <;> simp only [het, cond_true, cond_false] at hs
        · cases hs
        cases hsg : sureInt op y g <;> simp only [hsg, cond_true, cond_false] at hs
        · cases hs
        have guard : ∀ (W : World) (v v' : Value), (∀ cs, v ≠ .agg cs) → v ≠ .nilIface → (eqGuard op T x y v v').run P W = .ok () W := by
          intro W v v' hn1 hn2
          unfold eqGuard
          cases v <;> simp_all
        have base : ∀ (v v' : Value) (u : Dat), u.simple → a.eval x = v → a.eval y = v' → (∀ cs, v ≠ .agg cs) → v ≠ .nilIface → (∀ W : World, (binOp op T v v').run P W = .ok u.val W) → k (s.put o.dst u.av) = some r → StillWp P o a M.w K := by
          intro v v' u hu e1 e2 n1 n2 hrun hk
          refine still_value (fun W => ?_) (put_simple hI hd hg hu hk)
          simp [execOp, ho, e1, e2, guard W v v' n1 n2, hrun W]
        unfold binDat at hb
        split at hb
        · rename_i kd x' kd' y'
          cases hsh : isShift op <;> simp only [hsh, cond_true, cond_false] at hb
          · cases hk : kindBeq kd kd' <;> simp only [hk, cond_true, cond_false] at hb
            · cases hb
            · have ek := kindBeq_eq hk
              subst ek
              have hgt : g = true := sureInt_ok hsh hsg hb (viewed_int hI hy)
              exact base _ _ u (run_binInt (P := P) (T := T) hsh hb hgt M.w).2 (viewed_int hI hx) (viewed_int hI hy) (by simp) (by simp) (fun W => (run_binInt (P := P) (T := T) hsh hb hgt W).1) hs
          · have hgt : g = true := sureInt_g hsg (fun e => by subst e; simp [isShift] at hsh) (fun e => by subst e; simp [isShift] at hsh)
            exact base _ _ u (run_shInt (P := P) (T := T) (kd' := kd') hb hgt M.w).2 (viewed_int hI hx) (viewed_int hI hy) (by simp) (by simp) (fun W => (run_shInt (P := P) (T := T) (kd' := kd') hb hgt W).1) hs
        · rename_i x' y'
          cases hbs : binStr op x' y' with
          | none => simp [hbs] at hb
          | some u' =>
            simp only [hbs, Option.some.injEq, Prod.mk.injEq] at hb
            obtain ⟨h0, rfl⟩ := hb
            have hll : op = .add → List.length x' + List.length y' ≤ 9223372036854775807 := fun e => by
              subst e
              have := sureInt_g hsg (by simp) (by simp)
              subst this
              simpa using h0
            exact base _ _ _ (run_binStr (P := P) (T := T) hbs hll M.w).2 (viewed_str hI hx) (viewed_str hI hy) (by simp) (by simp) (fun W => (run_binStr (P := P) (T := T) hbs hll W).1) hs
        · rename_i t x' t' y' hni hns
          cases has : (Dat.mk t x').as t' with
          | none => simp [has] at hb
          | some x'' =>
            simp only [has] at hb
            unfold Dat.as at has
            split at has
            · rename_i hbt
              have et := Ty.beq_eq hbt
              subst et
              cases has
              cases hq : eqD t x' y' with
              | none => simp [hq] at hb
              | some q =>
                simp only [hq] at hb
                obtain ⟨cx, e1, hp1, r1⟩ := viewed hI hx
                obtain ⟨cy, e2, hp2, r2⟩ := viewed hI hy
                obtain ⟨hTy, hagg⟩ := eqTy_ok hC het (fun kd e => by cases e; exact hni kd x' kd y' rfl HEq.rfl rfl HEq.rfl) (fun e => by cases e; exact hns x' y' rfl HEq.rfl rfl HEq.rfl)
                simp only at e1 e2 r1 r2 hTy hagg
                cases ha : t.isAgg
                · have l1 := rep_length r1
                  have l2 := rep_length r2
                  have hsz : t.size = 1 := by cases t <;> simp_all [Ty.isAgg, Ty.size]
                  rw [hsz] at l1 l2
                  obtain ⟨v, rfl⟩ := List.length_eq_one_iff.1 l1
                  obtain ⟨v', rfl⟩ := List.length_eq_one_iff.1 l2
                  have hbe := fun W => basic_eq (P := P) (d := 9999) hTy ha r1 r2 hq W
                  have ev1 : a.eval x = v := by rw [e1]; simp [valOf, ha]
                  have ev2 : a.eval y = v' := by rw [e2]; simp [valOf, ha]
                  cases t <;> simp only [eqD] at hq <;> try (cases hq; done)
                  · exact (hni _ _ _ _ rfl HEq.rfl rfl HEq.rfl).elim
                  · simp only [rep] at r1 r2
                    cases r1; cases r2
                    cases op <;> simp only at hb <;> cases hb
                    all_goals exact base (.bool x') (.bool y') ⟨.bool, _⟩ trivial ev1 ev2 (by simp) (by simp) (fun W => by simp [binOp, Op.equal, Op.maxDepth, hbe W, Dat.val]) hs
                  · exact (hns _ _ rfl HEq.rfl rfl HEq.rfl).elim
                  · simp [Ty.isAgg] at ha
                  · simp [Ty.isAgg] at ha
                · obtain ⟨hef, hpl⟩ := hagg ha
                  have hbe := fun W => run_equal_struct hTy hef hpl ha r1 r2 hq W
                  have ev1 : a.eval x = .agg cx.toArray := by rw [e1]; simp [valOf, ha]
                  have ev2 : a.eval y = .agg cy.toArray := by rw [e2]; simp [valOf, ha]
                  have hgd := fun W => run_eqGuard_agg (P := P) W op T x y cx.toArray cy.toArray hef.guard
                  cases op <;> simp only at hb <;> cases hb
                  all_goals
                    refine still_value (fun W => ?_) (put_simple (z := ⟨.bool, _⟩) hI hd hg trivial hs)
                    simp [execOp, ho, ev1, ev2, hgd W, run_eql_struct, run_neq_struct, hbe W, Dat.val]
            · cases has

theorem RC_get {l : List AV} {vs : List Value} (h : RC M l vs) : ∀ (i : Nat) (av : AV), l[i]? = some av → ∃ v, vs[i]? = some v ∧ R M av v := by
  induction l generalizing vs with
  | nil => intro i av hi; simp at hi
  | cons a l ih =>
    intro i av hi
    cases vs with
    | nil => simp [RC] at h
    | cons v vs =>
      simp only [RC] at h
      cases i with
      | zero => simp only [List.getElem?_cons_zero, Option.some.injEq] at hi; subst hi; exact ⟨v, rfl, h.1⟩
      | succ i => simpa using ih h.2 i av (by simpa using hi)

theorem step_extract (hI : Inv N w0 M s a) (hd : ∀ d, o.dst = some d → d < N) (hg : Goes N w0 quiet o s M k r K) {t i : Nat} (ho : o.op = .extract (.tmp t) i)
    (hs : stepOp C quiet o s k = some r) : StillWp P o a M.w K := by
  unfold stepOp at hs
  simp only [ho] at hs
  cases hl : lk s.env t <;> simp only [hl] at hs <;> try (cases hs; done)
  rename_i vs
  cases hi : vs[i]? with
  | none => simp [hi] at hs
  | some av =>
    simp only [hi] at hs
    have hS := hI.holds.slots t
    rw [hl] at hS
    simp only [R] at hS
    obtain ⟨arr, h1, h2⟩ := hS
    have hev : a.eval (.tmp t) = .tuple arr := h1
    obtain ⟨y, hy, hR⟩ := RC_get h2 i av hi
    have hrun : ∀ W, (execOp a.eval o).run P W = .ok (.value y) W := fun W => by
      have hy' : arr[i]? = some y := by simpa using hy
      simp [execOp, ho, Instr.extract, hev, hy']
    exact still_value hrun (put_done hI hd hg hR hs)

theorem caps_ok (hI : Inv N w0 M s a) : ∀ (l : List Operand) (z : Dat), capsD s l = some z → rep M z.t (l.map a.eval) z.x
  | [], z, h => by simp only [capsD, Option.some.injEq] at h; subst h; rfl
  | c :: l, z, h => by
    simp only [capsD] at h
    cases hc : ev s c <;> simp only [hc] at h <;> try (cases h; done)
    rename_i t x
    cases hl : capsD s l with
    | none => simp [hl] at h
    | some u =>
      simp only [hl] at h
      cases ha : t.isAgg <;> simp only [ha, cond_true, cond_false] at h
      · cases h
        have h1 := R_ev hI c
        rw [hc] at h1
        simp only [R] at h1
        obtain ⟨cs, e1, e2⟩ := h1
        have hsz : t.size = 1 := by cases t <;> simp_all [Ty.isAgg, Ty.size]
        have hl1 := rep_length e2
        rw [hsz] at hl1
        obtain ⟨v, rfl⟩ := List.length_eq_one_iff.1 hl1
        exact ⟨[v], l.map a.eval, by simp [e1, valOf, ha], e2, caps_ok hI l u hl⟩
      · cases h

theorem step_makeFunc (hI : Inv N w0 M s a) (hd : ∀ d, o.dst = some d → d < N) (hg : Goes N w0 quiet o s M k r K) {f : FuncId} {first caps : Array Operand} (ho : o.op = .makeFunc (.func f) first caps)
    (hs : stepOp C quiet o s k = some r) : StillWp P o a M.w K := by
  unfold stepOp at hs
  simp only [ho] at hs
  cases h1 : Nat.beq first.size 0 <;> simp only [h1, cond_true, cond_false] at hs
  · cases hs
  cases h2 : capsD s caps.toList with
  | none => simp [h2] at hs
  | some z =>
    simp only [h2] at hs
    have hf : first = #[] := by have := Nat.eq_of_beq_eq_true h1; exact Array.eq_empty_of_size_eq_zero this
    refine still_value (v := .func (.func f) #[] (caps.map a.eval)) (fun W => by simp [execOp, ho, Instr.makeFunc, hf]) ?_
    refine put_done hI hd hg ?_ hs
    simp only [R]
    exact ⟨[_], rfl, _, rfl, by simpa using caps_ok hI caps.toList z h2⟩

theorem getD_eq {α : Type} (l : List α) (i : Nat) (d : α) (h : i < l.length) : l.getD i d = l[i] := by simp [List.getD_eq_getElem?_getD, h]
theorem toNat_lt {n : Int} {L : Nat} (h0 : 0 ≤ n) (h1 : n < L) : n.toNat < L := by omega

theorem step_index (hC : CtxOk0 P C) (hI : Inv N w0 M s a) (hd : ∀ d, o.dst = some d → d < N) (hg : Goes N w0 quiet o s M k r K) {S : TypeId} {x i : Operand} (ho : o.op = .index S x i)
    (hs : stepOp C quiet o s k = some r) : StillWp P o a M.w K := by
  unfold stepOp at hs
  simp only [ho] at hs
  split at hs
  · rename_i l kd n hv hi hS
    have hiv := int_val hI hi
    have e1 := str_val hI hv
    have hu := (hC.ty _ _ hS).under_str
    cases hb : (decide (0 ≤ n) && decide (n < l.length)) <;> simp only [hb, cond_true, cond_false] at hs
    · cases hs
    simp only [Bool.and_eq_true, decide_eq_true_eq] at hb
    have hin := toNat_lt hb.1 hb.2
    refine still_value (v := .int .u8 (l.getD (Int.toNat n) 0).toNat) (fun W => ?_) (put_int hI hd hg hs)
    have hget : (⟨l.toArray⟩ : ByteArray)[Int.toNat n]? = some (l.getD (Int.toNat n) 0) := by
      have hsz : (⟨l.toArray⟩ : ByteArray).size = l.length := rfl
      rw [getElem?_pos _ _ (by rw [hsz]; exact hin)]
      rw [getD_eq _ _ _ hin]
      rfl
    simp only [execOp, ho, hiv, e1, Instr.index, asIntOf, Sem.run_bind, Sem.run_pure, Result.andThen_ok, run_underlying hu, hb.1, if_true, hget]
  · rename_i m e l kd n m' e' hv hi hS
    have hiv := int_val hI hi
    have h0 := R_ev hI x
    rw [hv] at h0
    simp only [R] at h0
    obtain ⟨cs, e1, e2⟩ := h0
    obtain ⟨E, hu, hE⟩ := (hC.ty _ _ hS).under_arr
    cases hc : (Nat.beq m m' && e.shape.beq e'.shape && e.pure) <;> simp only [hc, cond_true, cond_false] at hs
    · cases hs
    cases hb : (decide (0 ≤ n) && decide (n < m)) <;> simp only [hb, cond_true, cond_false] at hs
    · cases hs
    simp only [Bool.and_eq_true, decide_eq_true_eq] at hb hc
    have hm : m = m' := Nat.eq_of_beq_eq_true hc.1.1
    have hsz := size_of_shape (Ty.beq_eq hc.1.2)
    obtain ⟨he, hl, css, rfl, e3⟩ := e2
    have hin : Int.toNat n < List.length l := by rw [show List.length l = m from hl]; exact toNat_lt hb.1 hb.2
    have hel := elem_drop (Int.toNat n) e.zero e3 hin
    have hlen : Int.toNat n * e'.size + e'.size ≤ css.flatten.length := by
      rw [flatten_length e3, ← hsz]
      have : (Int.toNat n + 1) * e.size ≤ List.length l * e.size := Nat.mul_le_mul_right _ hin
      rw [Nat.add_mul, Nat.one_mul] at this
      exact this
    have hp := fun W => run_part (P := P) hE css.flatten (Int.toNat n * e'.size) hlen W
    have hagg := isAgg_of_shape (Ty.beq_eq hc.1.2)
    refine still_value (v := valOf e' ((css.flatten.drop (Int.toNat n * e'.size)).take e'.size)) (fun W => ?_) ?_
    · have hev : a.eval x = .agg css.flatten.toArray := by rw [e1]; simp [valOf, Ty.isAgg]
      have hm' : (n : Int) < (m' : Int) := by rw [← hm]; exact hb.2
      simp only [execOp, ho, hiv, hev, Instr.index, asIntOf, Sem.run_bind, Sem.run_pure, Result.andThen_ok, run_underlying hu, hb.1, hm', and_self, if_true, hE.run_sizeOf, hp]
    · refine put_done hI hd hg ?_ hs
      simp only [R]
      exact ⟨_, by simp only [valOf, hagg, hsz], hel⟩
  · cases hs

theorem step_field (hC : CtxOk0 P C) (hI : Inv N w0 M s a) (hd : ∀ d, o.dst = some d → d < N) (hg : Goes N w0 quiet o s M k r K) {S : TypeId} {x : Operand} {f : Nat} (ho : o.op = .field S x f)
    (hs : stepOp C quiet o s k = some r) : StillWp P o a M.w K := by
  unfold stepOp at hs
  simp only [ho] at hs
  split at hs
  · rename_i t z t' hv hS
    cases hf : fldD t z f with
    | none => simp [hf] at hs
    | some y =>
      simp only [hf] at hs
      cases hc : t.shape.beq t'.shape <;> simp only [hc, cond_true, cond_false] at hs
      · cases hs
      have h0 := R_ev hI x
      rw [hv] at h0
      simp only [R] at h0
      obtain ⟨cs, e1, e2⟩ := h0
      have hft := fldD_t hf
      obtain ⟨u', k1, k2, k3⟩ := fld_shape (Ty.beq_eq hc) hft
      obtain ⟨fs, n, f1, f2⟩ := (hC.ty _ _ hS).under_struct (struct_of_fld k1)
      obtain ⟨fl, f3, f4, f5⟩ := flds_get fs.toList t' n 0 f u' f2 k1
      have hr := rep_fld e2 hf
      have hsz := size_of_shape k2
      have hle : fldOff t f + u'.size ≤ cs.length := by rw [rep_length e2, ← hsz]; exact fldOff_le hft
      have hpr := fun W => run_part (P := P) f5 cs (fldOff t f) hle W
      have hagg := isAgg_of_shape k2
      have hza : t.isAgg = true := by rcases struct_of_fld hft with h | ⟨p, q, h⟩ <;> rw [h] <;> rfl
      refine still_value (v := valOf u' ((cs.drop (fldOff t f)).take u'.size)) (fun W => ?_) ?_
      · have hev : a.eval x = .agg cs.toArray := by rw [e1]; simp [valOf, hza]
        have f3' : fs[f]? = some fl := by simpa using f3
        have f4' : fl.offset = fldOff t f := by rw [f4, k3, Nat.zero_add]
        simp only [execOp, ho, hev, Instr.field, Sem.run_bind, Sem.run_pure, Result.andThen_ok, run_underlying f1, f3', f4', asAgg, hpr]
      · refine put_done hI hd hg ?_ hs
        simp only [Dat.av, R]
        exact ⟨_, by simp only [valOf, hagg, hsz], hr⟩
  · cases hs

theorem ints_ok (hI : Inv N w0 M s a) : ∀ (xs : List Operand) (l : List (IntKind × Int)), intsOf s xs = some l → xs.map a.eval = l.map fun p => .int p.1 p.2
  | [], l, h => by simp only [intsOf, Option.some.injEq] at h; subst h; rfl
  | x :: xs, l, h => by
    unfold intsOf at h
    split at h
    · rename_i kd n l' h1 h2
      cases h
      simp [int_val hI h1, ints_ok hI xs l' h2]
    · cases h

theorem run_max {kd : IntKind} : ∀ (l : List (IntKind × Int)) (x : Int) (z : Dat), maxI kd x l = some z → ∃ n, z = ⟨.int kd, n⟩ ∧ ∀ W : World, ((l.map fun p => Value.int p.1 p.2).foldlM Builtin.max2 (.int kd x)).run P W = .ok (.int kd n) W
  | [], x, z, h => by simp only [maxI, Option.some.injEq] at h; exact ⟨x, h.symm, by simp⟩
  | (k', y) :: l, x, z, h => by
    simp only [maxI] at h
    cases hk : kindBeq kd k' <;> simp only [hk, cond_true, cond_false] at h
    · cases h
    · obtain ⟨n, h1, h2⟩ := run_max l _ z h
      exact ⟨n, h1, fun W => by simp [Builtin.max2, h2 W]⟩

theorem run_min {kd : IntKind} : ∀ (l : List (IntKind × Int)) (x : Int) (z : Dat), minI kd x l = some z → ∃ n, z = ⟨.int kd, n⟩ ∧ ∀ W : World, ((l.map fun p => Value.int p.1 p.2).foldlM Builtin.min2 (.int kd x)).run P W = .ok (.int kd n) W
  | [], x, z, h => by simp only [minI, Option.some.injEq] at h; exact ⟨x, h.symm, by simp⟩
  | (k', y) :: l, x, z, h => by
    simp only [minI] at h
    cases hk : kindBeq kd k' <;> simp only [hk, cond_true, cond_false] at h
    · cases h
    · obtain ⟨n, h1, h2⟩ := run_min l _ z h
      exact ⟨n, h1, fun W => by simp [Builtin.min2, h2 W]⟩

theorem step_max (hI : Inv N w0 M s a) (hd : ∀ d, o.dst = some d → d < N) (hg : Goes N w0 quiet o s M k r K) {args : Array Operand} {Ts : Array TypeId} (ho : o.op = .call { callee := .builtin .max, args := args, argTypes := Ts })
    (hs : stepOp C quiet o s k = some r) : StillWp P o a M.w K := by
  unfold stepOp at hs
  simp only [ho] at hs
  obtain ⟨args⟩ := args
  rcases args with _ | ⟨x, xs⟩
  · cases hs
  · simp only at hs
    split at hs
    · rename_i kd n l h1 h2
      cases hm : maxI kd n l with
      | none => simp [hm] at hs
      | some z =>
        simp only [hm] at hs
        obtain ⟨n', rfl, h3⟩ := run_max (P := P) l n z hm
        refine still_value (v := .int kd n') (fun W => ?_) (put_int hI hd hg hs)
        have h4 := ints_ok hI xs l h2
        rw [exec_builtin ho]
        simp [builtin, Builtin.max_, int_val hI h1, h4, h3]
    · cases hs

theorem step_min (hI : Inv N w0 M s a) (hd : ∀ d, o.dst = some d → d < N) (hg : Goes N w0 quiet o s M k r K) {args : Array Operand} {Ts : Array TypeId} (ho : o.op = .call { callee := .builtin .min, args := args, argTypes := Ts })
    (hs : stepOp C quiet o s k = some r) : StillWp P o a M.w K := by
  unfold stepOp at hs
  simp only [ho] at hs
  obtain ⟨args⟩ := args
  rcases args with _ | ⟨x, xs⟩
  · cases hs
  · simp only at hs
    split at hs
    · rename_i kd n l h1 h2
      cases hm : minI kd n l with
      | none => simp [hm] at hs
      | some z =>
        simp only [hm] at hs
        obtain ⟨n', rfl, h3⟩ := run_min (P := P) l n z hm
        refine still_value (v := .int kd n') (fun W => ?_) (put_int hI hd hg hs)
        have h4 := ints_ok hI xs l h2
        rw [exec_builtin ho]
        simp [builtin, Builtin.min_, int_val hI h1, h4, h3]
    · cases hs

theorem step_len (hC : CtxOk0 P C) (hI : Inv N w0 M s a) (hd : ∀ d, o.dst = some d → d < N) (hg : Goes N w0 quiet o s M k r K) {args : Array Operand} {Ts : Array TypeId} (ho : o.op = .call { callee := .builtin .len, args := args, argTypes := Ts })
    (hs : stepOp C quiet o s k = some r) : StillWp P o a M.w K := by
  unfold stepOp at hs
  simp only [ho] at hs
  obtain ⟨args⟩ := args
  obtain ⟨Ts⟩ := Ts
  simp only at hs
  rcases args with _ | ⟨x, _ | ⟨y, l⟩⟩ <;> first | (cases hs; done) | skip
  rcases Ts with _ | ⟨T, _ | ⟨U, l⟩⟩ <;> first | (cases hs; done) | skip
  simp only at hs
  have base : ∀ (n : Int), (∀ W, (Builtin.len_ #[T] o.type #[a.eval x]).run P W = .ok (.int .i64 n) W) → k (s.put o.dst (.d (.int .i64) n)) = some r → StillWp P o a M.w K := by
    intro n hr hk
    refine still_value (fun W => ?_) (put_int hI hd hg hk)
    rw [exec_builtin ho]
    simp [builtin, hr W]
  cases hT : C.ty T with
  | none => simp [hT] at hs
  | some t =>
    simp only [hT] at hs
    cases hl : lenA s.σ (ev s x) t with
    | none => simp [hl] at hs
    | some p =>
      obtain ⟨g, n⟩ := p
      simp only [hl] at hs
      cases hgt : g <;> simp only [hgt, cond_true, cond_false] at hs
      · cases hs
      subst hgt
      have hR := R_ev hI x
      have slc : ∀ {q : Nat} {e : Ty} (m : Nat) (ad : Option Addr) (cap : Nat), C.ty T = some (.slice q e) → a.eval x = .slice ad m cap → (n : Int) = m → StillWp P o a M.w K := fun m ad cap ht hv hn => by
        obtain ⟨E, h1, _⟩ := (hC.ty _ _ ht).under_slice
        exact base n (fun W => by simp [Builtin.len_, run_underlying h1, hv, goInt, hn]) hs
      unfold lenA at hl
      split at hl
      · rename_i q e hx
        cases hl
        exact slc 0 none 0 hT (nilS_val hI hx) rfl
      · rename_i q e l q' e' hx
        cases hl
        rw [hx] at hR
        simp only [R] at hR
        obtain ⟨cs, h1, _, ad, cap, rfl, _⟩ := hR
        exact slc _ ad cap hT h1 rfl
      · rename_i l hx
        cases hl
        have h1 := (hC.ty _ _ hT).under_str
        have e1 := str_val hI hx
        have hsz : (⟨l.toArray⟩ : ByteArray).size = l.length := rfl
        exact base l.length (fun W => by simp [Builtin.len_, run_underlying h1, e1, goInt, hsz]) hs
      · rename_i n' e l m e' hx
        simp only [Option.some.injEq, Prod.mk.injEq] at hl
        obtain ⟨h0, rfl⟩ := hl
        have := Nat.eq_of_beq_eq_true h0
        subst this
        obtain ⟨E, h1, _⟩ := (hC.ty _ _ hT).under_arr
        exact base n' (fun W => by simp [Builtin.len_, run_underlying h1, goInt]) hs
      · rename_i i x' q e hx
        rw [hx] at hR
        simp only [R] at hR
        obtain ⟨cs, h1, h2, rfl, _⟩ := hR
        have ho' := (hI.holds.objs i).2
        split at hl
        · rename_i T' e' l hob
          cases hl
          rw [hob] at ho'
          obtain ⟨_, ad, cap, k1, _⟩ := ho'
          exact slc _ ad cap hT (by rw [h1]; simpa [valOf, Ty.isAgg] using k1) rfl
        · rename_i e' l hob
          cases hl
          rw [hob] at ho'
          obtain ⟨_, ad, cap, k1, _⟩ := ho'
          exact slc _ ad cap hT (by rw [h1]; simpa [valOf, Ty.isAgg] using k1) rfl
        · cases hl
      · rename_i i e' b c q e hx
        cases hl
        rw [hx] at hR
        simp only [R] at hR
        obtain ⟨_, ad, n', cap, _, _, _, _, ad', h6, _⟩ := hR
        exact slc _ ad' _ hT h6 rfl
      · cases hl

end
end Go.Lift
