import Derived.Test.YtbdbjamebjbhnaaLCall
import Derived.Laws.Cover3
set_option linter.all false
/- STEPS: comparison with nil. -/
namespace Go.Lift
section
variable {P : Program} {C : Ctx} {N : Nat} {w0 : Entry} {M : Mem} {s : St} {a : Act} {quiet : Bool} {o : Oper} {R' : Type} {k : St → Option R'} {r : R'}
  {K : Act → World → Prop} {Q : Exit → Act → World → Prop} {w : World}

theorem TyOk.under_nilp {T : TypeId} {m : Bool} (h : TyOk P T (.nilp m)) : (m = false ∧ ∃ E, P.underlying T = some (.pointer E)) ∨ (m = true ∧ ∃ k E, P.underlying T = some (.map k E)) := by
  obtain ⟨d, hd, hm⟩ := h.under
  cases d <;> simp only at hm
  · exact .inl ⟨hm, _, hd⟩
  · exact .inr ⟨hm, _, _, hd⟩
  · obtain ⟨n, hn⟩ := hm; rw [no_flds rfl] at hn; cases hn

theorem run_eqIn_ptr (d : Nat) {T E : TypeId} (h : P.underlying T = some (.pointer E)) (x : Option Addr) : (Op.equalIn (d + 1) T (.pointer x) (.pointer none)).run P w = .ok x.isNone w := by
  cases x <;> simp [Op.equalIn, run_underlying h]
theorem run_eq_ptr {T E : TypeId} (h : P.underlying T = some (.pointer E)) (x : Option Addr) : (Op.equal T (.pointer x) (.pointer none)).run P w = .ok x.isNone w := run_eqIn_ptr 9999 h x

/-- What nil is, and whether the value is. -/
theorem nil_ok (hC : CtxOk0 P C) (hI : Inv N w0 M s a) {T : TypeId} {x y : Operand} {t : Ty} {b : Bool} (h1 : nilArm C T (ev s y) = some t) (h2 : isNil s.σ t (ev s x) = some b) :
    (∀ W : World, (Op.equal T (a.eval x) (a.eval y)).run P W = .ok b W) ∧ (∀ cs, a.eval x ≠ .agg cs) ∧ a.eval x ≠ .nilIface := by
  have hRx := R_ev hI x
  have hRy := R_ev hI y
  have ptr : ∀ {E : TypeId} (p : Option Addr), P.underlying T = some (.pointer E) → a.eval x = .pointer p → a.eval y = .pointer none → p.isNone = b → (∀ W : World, (Op.equal T (a.eval x) (a.eval y)).run P W = .ok b W) ∧ (∀ cs, a.eval x ≠ .agg cs) ∧ a.eval x ≠ .nilIface := fun p hu e1 e2 e3 => by
    rw [e1, e2]
    exact ⟨fun W => by rw [run_eq_ptr hu, e3], by simp, by simp⟩
  unfold nilArm at h1
  split at h1
  · rename_i hy
    have ey := nilS_val hI hy
    split at h1
    · rename_i q e hT
      cases h1
      obtain ⟨E, hu, _⟩ := (hC.ty _ _ hT).under_slice
      have sl : ∀ (p : Option Addr) (l c : Nat), a.eval x = .slice p l c → p.isNone = b → (∀ W : World, (Op.equal T (a.eval x) (a.eval y)).run P W = .ok b W) ∧ (∀ cs, a.eval x ≠ .agg cs) ∧ a.eval x ≠ .nilIface := fun p l c e1 e2 => by
        rw [e1, ey]
        exact ⟨fun W => by rw [run_equal_slice_nil W T E p l c hu, e2], by simp, by simp⟩
      unfold isNil at h2
      split at h2 <;> (try (cases h2; done)) <;> (try (rename_i hh _; cases hh; done)) <;> (try (rename_i hh; cases hh; done))
      · rename_i hx
        cases h2
        exact sl _ _ _ (nilS_val hI hx) rfl
      · rename_i hx
        cases h2
        rw [hx] at hRx
        simp only [R, rep] at hRx
        obtain ⟨cs, h0, _, ad, cap, rfl, _, _, _, _, h3, _⟩ := hRx
        exact sl _ _ _ h0 (by rw [(h3 trivial).1]; rfl)
      · rename_i hx
        cases h2
        rw [hx] at hRx
        simp only [R, rep] at hRx
        obtain ⟨cs, h0, _, ad, cap, rfl, _, _, _, h3, _, _⟩ := hRx
        refine sl _ _ _ h0 ?_
        cases ad with
        | none => exact absurd rfl (h3 trivial)
        | some _ => rfl
    · cases h1
  · rename_i m u hy
    rw [hy] at hRy
    simp only [R, rep] at hRy
    obtain ⟨cs, e1, rfl⟩ := hRy
    split at h1
    · rename_i m' hT
      cases hm : boolBeq m m' <;> simp only [hm, cond_true, cond_false] at h1
      · cases h1
      have := boolBeq_eq hm
      subst this
      cases h1
      rcases (hC.ty _ _ hT).under_nilp with ⟨rfl, E, hu⟩ | ⟨rfl, kT, E, hu⟩
      · have ey : a.eval y = .pointer none := e1
        unfold isNil at h2
        split at h2 <;> (try (cases h2; done)) <;> (try (rename_i hh _; cases hh; done)) <;> (try (rename_i hh; cases hh; done))
        · rename_i m1 m2 u' hm1 hx
          cases hm1
          cases hmm : boolBeq false m2 <;> simp only [hmm, cond_true, cond_false] at h2
          · cases h2
          have := boolBeq_eq hmm
          subst this
          cases h2
          rw [hx] at hRx
          simp only [R, rep] at hRx
          obtain ⟨cs, h0, rfl⟩ := hRx
          exact ptr none hu h0 ey rfl
        · rename_i e' x' _ hx
          cases h2
          rw [hx] at hRx
          simp only [R, rep] at hRx
          obtain ⟨cs, h0, _, b', off, cs', rfl, _⟩ := hRx
          exact ptr _ hu h0 ey rfl
        · rename_i e' x' _ hx
          rw [hx] at hRx
          simp only [R, rep] at hRx
          obtain ⟨cs, h0, _, ⟨hn, rfl⟩ | ⟨y', hn, b', off, cs', rfl, _⟩⟩ := hRx
          · subst hn
            exact ptr _ hu h0 ey (by simpa using h2)
          · subst hn
            exact ptr _ hu h0 ey (by simpa using h2)
        · rename_i i' t' p' _ hx
          cases h2
          rw [hx] at hRx
          simp only [R] at hRx
          obtain ⟨_, _, b', _, h0⟩ := hRx
          exact ptr _ hu h0 ey rfl
        · rename_i i' x' _ hx
          rw [hx] at hRx
          simp only [R, rep] at hRx
          obtain ⟨cs, h0, _, rfl, _⟩ := hRx
          have h0 : a.eval x = M.φ i' := h0
          have hO := (hI.holds.objs i').2
          split at h2
          · rename_i hl
            cases h2
            rw [hl] at hO
            obtain ⟨b', cur, k1, _⟩ := hO
            exact ptr _ hu (h0.trans k1) ey rfl
          · rename_i hl
            cases h2
            rw [hl] at hO
            obtain ⟨_, b', cs, k1, _⟩ := hO
            exact ptr _ hu (h0.trans k1) ey rfl
          · cases h2
      · have ey : a.eval y = .map none := e1
        unfold isNil at h2
        split at h2 <;> (try (cases h2; done)) <;> (try (rename_i hh _; cases hh; done)) <;> (try (rename_i hh; cases hh; done))
        · rename_i m1 m2 u' hm1 hx
          cases hm1
          cases hmm : boolBeq true m2 <;> simp only [hmm, cond_true, cond_false] at h2
          · cases h2
          have := boolBeq_eq hmm
          subst this
          cases h2
          rw [hx] at hRx
          simp only [R, rep] at hRx
          obtain ⟨cs, h0, rfl⟩ := hRx
          have h0 : a.eval x = .map none := h0
          rw [h0, ey]
          exact ⟨fun W => by rw [run_equal_map_nil W T kT E none hu]; rfl, by simp, by simp⟩
    · cases h1
  · cases h1

theorem nil_shape (hI : Inv N w0 M s a) {T : TypeId} {y : Operand} {t : Ty} (h1 : nilArm C T (ev s y) = some t) : a.eval y = .slice none 0 0 ∨ a.eval y = .pointer none ∨ a.eval y = .map none := by
  have hRy := R_ev hI y
  unfold nilArm at h1
  split at h1
  · rename_i hy; exact .inl (nilS_val hI hy)
  · rename_i m u hy
    rw [hy] at hRy
    simp only [R, rep] at hRy
    obtain ⟨cs, e1, rfl⟩ := hRy
    cases m
    · exact .inr (.inl e1)
    · exact .inr (.inr e1)
  · cases h1

theorem run_bin_nil {T : TypeId} {v u : Value} {b : Bool} {W : World} (hu : u = .slice none 0 0 ∨ u = .pointer none ∨ u = .map none) (h : (Op.equal T v u).run P W = .ok b W) :
    (binOp .eql T v u).run P W = .ok (.bool b) W ∧ (binOp .neq T v u).run P W = .ok (.bool (!b)) W := by
  rcases hu with rfl | rfl | rfl <;> cases v <;> simp [binOp, h]

theorem step_binOp (hC : CtxOk0 P C) (hI : Inv N w0 M s a) (hd : ∀ d, o.dst = some d → d < N) (hg : Goes N w0 quiet o s M k r K) {op : BinOp} {T U : TypeId} {x y : Operand} (ho : o.op = .binOp op T x y U)
    (hs : stepOp C quiet o s k = some r) : StillWp P o a M.w K := by
  unfold stepOp at hs
  simp only [ho] at hs
  cases hn : nilArm C T (ev s y) with
  | none =>
    simp only [hn] at hs
    exact step_binDat hC hI hd hg ho hs
  | some t =>
    simp only [hn] at hs
    cases hb : isNil s.σ t (ev s x) with
    | none => simp only [hb] at hs; cases op <;> cases hs
    | some b =>
      simp only [hb] at hs
      obtain ⟨h1, h2, h3⟩ := nil_ok hC hI hn hb
      have guard : ∀ (W : World), (eqGuard op T x y (a.eval x) (a.eval y)).run P W = .ok () W := by
        intro W
        unfold eqGuard
        generalize a.eval x = v at *
        generalize a.eval y = v' at *
        cases v <;> simp_all
      cases op <;> simp only at hs <;> try (cases hs; done)
      · refine still_value (v := .bool b) (fun W => ?_) (put_bool hI hd hg hs)
        simp [execOp, ho, guard W, (run_bin_nil (nil_shape hI hn) (h1 W)).1]
      · refine still_value (v := .bool (!b)) (fun W => ?_) (put_bool hI hd hg hs)
        simp [execOp, ho, guard W, (run_bin_nil (nil_shape hI hn) (h1 W)).2]

end
end Go.Lift
