import Derived.Test.YtbdbjamebjbhnaaLDraw
set_option linter.all false
/- A STATE BROUGHT TO A SHAPE. -/
namespace Go.Lift

section
variable {N : Nat} {w0 : Entry} {M : Mem} {s : St} {a : Act}

theorem pure_reach {rec : Nat → List Nat} {t : Ty} (h : t.pure = true) : rchW rec t = [] := by
  induction t with
  | cons a b iha ihb => obtain ⟨h1, h2⟩ := pure_cons h; simp [rchW, iha h1, ihb h2]
  | fn f c ih => simp only [rchW]; exact ih (by simpa [Ty.pure] using h)
  | ref i => simp [Ty.pure] at h
  | _ => rfl

theorem Sees.none (M : Mem) : Sees M M [] := fun b hb h => h.elim (fun h => ⟨h, rfl⟩) (fun ⟨_, h, _⟩ => by simp at h)

/-- A new empty slice, which has no memory. -/
def Mem.empty (M : Mem) : Mem := { M with φ := fun i => if i = M.nx then .slice none 0 0 else M.φ i, nx := M.nx + 1 }

theorem empty_le (M : Mem) : M.le M.empty := ⟨Nat.le_succ _, fun i hi => by simp [Mem.empty, Nat.ne_of_lt hi], fun _ _ h => ⟨h, rfl⟩⟩

theorem empty_inv (hI : Inv N w0 M s a) {T : TypeId} {e : Ty} (he : e.pure = true) : Inv N w0 M.empty (s.empty T e) a := by
  have hnx := hI.holds.nx
  have hT : Turn M M.empty (fun _ => False) := ⟨empty_le M, ⟨rfl, rfl, rfl, Nat.le_refl _, fun _ _ _ => ⟨rfl, rfl⟩⟩, fun _ _ _ h _ => ⟨h, rfl⟩⟩
  exact hI.to hT (σ' := (s.nx, .vec T e []) :: s.σ) (nx' := s.nx + 1) (by rw [← hnx]; rfl) (fun id => by
    rw [lkO_cons]
    by_cases h : id = s.nx
    · rw [if_pos h]; exact .inr ⟨.inr (by omega), he, none, 0, by simp [Mem.empty, h, hnx], Nat.le_refl _, Nat.zero_le _, .inl ⟨rfl, rfl⟩⟩
    · rw [if_neg h]; exact .inl ⟨rfl, fun h => h⟩)

theorem empty_rep (hI : Inv N w0 M s a) : rep M.empty (.ref s.nx) [.slice none 0 0] () := by
  have hnx := hI.holds.nx
  simp only [rep, Mem.empty, hnx]
  exact ⟨Nat.lt_succ_self _, by simp, by simp; rfl⟩

theorem fitD_ok {obs : List OS} : ∀ {t t' : Ty} {x : t'.den} {s : St} {M : Mem} {z : Dat} {s' : St} {cs : List Value}, fitD obs t t' x s = some (z, s') → Inv N w0 M s a → rep M t' cs x →
    ∃ M', M'.w = M.w ∧ M.le M' ∧ Inv N w0 M' s' a ∧ s'.env = s.env ∧ rep M' z.t cs z.x ∧ z.t.isAgg = t'.isAgg := by
  -- the datum as such
  have same : ∀ {t' : Ty} {x : t'.den} {s : St} {M : Mem} {z : Dat} {s' : St} {cs : List Value}, some ((⟨t', x⟩ : Dat), s) = some (z, s') → Inv N w0 M s a → rep M t' cs x →
      ∃ M', M'.w = M.w ∧ M.le M' ∧ Inv N w0 M' s' a ∧ s'.env = s.env ∧ rep M' z.t cs z.x ∧ z.t.isAgg = t'.isAgg := fun h hI hr => by
    cases h; exact ⟨_, rfl, Mem.le.refl _, hI, rfl, hr, rfl⟩
  -- other types
  have gen : ∀ {t t' : Ty} {x : t'.den} {s : St} {M : Mem} {z : Dat} {s' : St} {cs : List Value}, (bif t'.pure then (match purify s.σ t' x with
      | some z => some (z, s)
      | none => none)
      else bif t.pure then match purify s.σ t' x, s.frz (reach s.σ t') with
        | some z, some s' => some (z, s')
        | _, _ => none
      else some (⟨t', x⟩, s)) = some (z, s') → Inv N w0 M s a → rep M t' cs x → ∃ M', M'.w = M.w ∧ M.le M' ∧ Inv N w0 M' s' a ∧ s'.env = s.env ∧ rep M' z.t cs z.x ∧ z.t.isAgg = t'.isAgg := by
    intro t t' x s M z s' cs h hI hr
    cases hp : t'.pure <;> simp only [hp, cond_true, cond_false] at h
    · cases hq : t.pure <;> simp only [hq, cond_true, cond_false] at h
      · exact same h hI hr
      · cases hu : purify s.σ t' x with
        | none => simp [hu] at h
        | some u =>
          cases hf : s.frz (reach s.σ t') with
          | none => simp [hu, hf] at h
          | some s1 =>
            simp only [hu, hf, Option.some.injEq, Prod.mk.injEq] at h
            obtain ⟨rfl, rfl⟩ := h
            obtain ⟨_, h2, h3⟩ := purify_ok hI.holds.objs (frz_sees M (hot s.σ (reach s.σ t'))) hu hr
            exact ⟨M.frz (hot s.σ (reach s.σ t')), rfl, (frz_turn M _).le, frz_inv hI hf, (frz_holds hI.holds hf).2.1, h3, h2⟩
    · cases hu : purify s.σ t' x with
      | none => simp [hu] at h
      | some u =>
        simp only [hu, Option.some.injEq, Prod.mk.injEq] at h
        obtain ⟨rfl, rfl⟩ := h
        have hz : hot s.σ (reach s.σ t') = [] := by unfold reach; rw [pure_reach hp]; rfl
        obtain ⟨_, h2, h3⟩ := purify_ok hI.holds.objs (by rw [hz]; exact Sees.none M) hu hr
        exact ⟨M, rfl, Mem.le.refl _, hI, rfl, h3, h2⟩
  intro t
  induction t with
  | cons a1 b1 iha ihb =>
    intro t' x s M z s' cs h hI hr
    cases t' with
    | cons a' b' =>
      simp only [fitD] at h
      cases hb : (Ty.cons a' b').beq (.cons a1 b1) <;> simp only [hb, cond_true, cond_false] at h
      · cases h1 : fitD obs a1 a' x.1 s with
        | none => simp [h1] at h
        | some p1 =>
        obtain ⟨y, s1⟩ := p1
        simp only [h1] at h
        cases h2 : fitD obs b1 b' x.2 s1 with
        | none => simp [h2] at h
        | some p2 =>
        obtain ⟨y2, s2⟩ := p2
        simp only [h2, Option.some.injEq, Prod.mk.injEq] at h
        obtain ⟨rfl, rfl⟩ := h
        simp only [rep] at hr
        obtain ⟨c1, c2, rfl, r1, r2⟩ := hr
        obtain ⟨M1, w1, l1, I1, e1, k1, _⟩ := iha h1 hI r1
        obtain ⟨M2, w2, l2, I2, e2, k2, _⟩ := ihb h2 I1 (rep_mono l1 r2)
        exact ⟨M2, w2.trans w1, l1.trans l2, I2, e2.trans e1, ⟨c1, c2, rfl, rep_mono l2 k1, k2⟩, rfl⟩
      · exact same h hI hr
    | _ => exact gen (t := .cons a1 b1) h hI hr
  | ref j =>
    intro t' x s M z s' cs h hI hr
    have other : fitD obs (.ref j) t' x s = some ((⟨t', x⟩ : Dat), s) → ∃ M', M'.w = M.w ∧ M.le M' ∧ Inv N w0 M' s' a ∧ s'.env = s.env ∧ rep M' z.t cs z.x ∧ z.t.isAgg = t'.isAgg := fun e => same (by rw [← e]; exact h) hI hr
    cases t' with
    | slice q e' =>
      by_cases hq : q = 3
      · subst hq
        simp only [fitD] at h
        split at h
        · rename_i T e ho
          cases he : e.pure <;> simp only [he, cond_true, cond_false] at h
          · cases h
          cases h
          simp only [rep] at hr
          obtain ⟨_, ad, cap, rfl, hl, _, _, _, h3, h4⟩ := hr
          obtain ⟨rfl, rfl⟩ := h3 trivial
          have hx : List.length x = 0 := Nat.le_zero.1 hl
          exact ⟨M.empty, rfl, empty_le M, empty_inv hI he, rfl, by rw [hx]; exact empty_rep hI, rfl⟩
        · cases h
      · refine other ?_
        match q, hq with
        | 0, _ => rfl
        | 1, _ => rfl
        | 2, _ => rfl
        | n + 4, _ => rfl
    | _ => exact other rfl
  | int k => intro t' x s M z s' cs h hI hr; exact gen (t := .int k) h hI hr
  | bool => intro t' x s M z s' cs h hI hr; exact gen (t := .bool) h hI hr
  | str => intro t' x s M z s' cs h hI hr; exact gen (t := .str) h hI hr
  | slice q e _ => intro t' x s M z s' cs h hI hr; exact gen (t := .slice q e) h hI hr
  | nil => intro t' x s M z s' cs h hI hr; exact gen (t := .nil) h hI hr
  | arr n e _ => intro t' x s M z s' cs h hI hr; exact gen (t := .arr n e) h hI hr
  | any => intro t' x s M z s' cs h hI hr; exact gen (t := .any) h hI hr
  | nilp m => intro t' x s M z s' cs h hI hr; exact gen (t := .nilp m) h hI hr
  | iptr e _ => intro t' x s M z s' cs h hI hr; exact gen (t := .iptr e) h hI hr
  | atl e _ => intro t' x s M z s' cs h hI hr; exact gen (t := .atl e) h hI hr
  | fn f c _ => intro t' x s M z s' cs h hI hr; exact gen (t := .fn f c) h hI hr

theorem setO_inv (hI : Inv N w0 M s a) {i : Nat} {ob : Ob} (hi : i < M.nx) (h : OR M i ob) : Inv N w0 M (s.setO i ob) a := by
  have := hI.to (Turn.refl M (fun _ => False)) (σ' := (i, ob) :: s.σ) (nx' := s.nx) hI.holds.nx (fun id => by
    rw [lkO_cons]
    by_cases h' : id = i
    · rw [if_pos h']; subst h'; exact .inr ⟨.inr (by have := hI.holds.nx; omega), h⟩
    · rw [if_neg h']; exact .inl ⟨rfl, fun h => h⟩)
  exact this

theorem fitV_ok {obs : List OS} {b : AS} {v : AV} {u : Value} {v' : AV} {s' : St} (h : fitV obs b v s = some (v', s')) (hI : Inv N w0 M s a) (hR : R M v u) :
    ∃ M', M'.w = M.w ∧ M.le M' ∧ Inv N w0 M' s' a ∧ R M' v' u := by
  unfold fitV at h
  split at h
  · rename_i e
    cases he : e.pure <;> simp only [he, cond_true, cond_false] at h
    · cases h
    cases h
    simp only [R] at hR
    subst hR
    refine ⟨M, rfl, Mem.le.refl _, hI, ?_⟩
    simp only [R, rep]
    exact ⟨[.slice none 0 0], rfl, he, none, 0, rfl, Nat.le_refl _, Nat.zero_le _, by omega, by omega, by omega, fun hn => absurd rfl hn⟩
  · rename_i j
    split at h
    · rename_i T e ho
      cases he : e.pure <;> simp only [he, cond_true, cond_false] at h
      · cases h
      cases h
      simp only [R] at hR
      subst hR
      refine ⟨M.empty, rfl, empty_le M, empty_inv hI he, ?_⟩
      simp only [R]
      exact ⟨[.slice none 0 0], rfl, empty_rep hI⟩
    · cases h
  · rename_i j i x
    split at h
    · rename_i T0 t T t' y ho hl
      cases hf : fitD obs t t' y s with
      | none => simp [hf] at h
      | some p =>
        obtain ⟨z, s1⟩ := p
        simp only [hf] at h
        have hO := (hI.holds.objs i).2
        rw [hl] at hO
        obtain ⟨b', cur, h1, h2, h3, h4⟩ := hO
        obtain ⟨M1, w1, l1, I1, e1, k1, _⟩ := fitD_ok hf hI h4
        have hin : i < M.nx := (hI.holds.objs i).1.resolve_left (by rw [hl]; simp)
        split at h
        · rename_i T2 t2 y2 hl2
          cases h
          have hO2 := (I1.holds.objs i).2
          rw [hl2] at hO2
          obtain ⟨b2, cur2, m1, m2, m3, m4⟩ := hO2
          rw [l1.φ i hin, h1] at m1
          cases m1
          refine ⟨M1, w1, l1, setO_inv I1 (Nat.lt_of_lt_of_le hin l1.nx) ⟨b', cur, (l1.φ i hin).trans h1, m2, by rw [w1]; exact h3, k1⟩, R_mono l1 _ _ hR⟩
        · cases h
    · cases h
      exact ⟨M, rfl, Mem.le.refl _, hI, hR⟩
  · rename_i t t' x hn
    cases hf : fitD obs t t' x s with
    | none => simp [hf] at h
    | some p =>
      obtain ⟨z, s1⟩ := p
      simp only [hf, Option.some.injEq, Prod.mk.injEq] at h
      obtain ⟨rfl, rfl⟩ := h
      simp only [R] at hR
      obtain ⟨cs, h1, h2⟩ := hR
      obtain ⟨M1, w1, l1, I1, e1, k1, k2⟩ := fitD_ok hf hI h2
      refine ⟨M1, w1, l1, I1, ?_⟩
      simp only [Dat.av, R]
      exact ⟨cs, by rw [valOf_agg k2]; exact h1, k1⟩
  · rename_i t _ _ _ _
    cases hv : viewA s.σ v with
    | none => simp [hv] at h
    | some z =>
      cases hf : s.frz (v.reach s.σ) with
      | none => simp [hv, hf] at h
      | some s1 =>
        simp only [hv, hf, Option.some.injEq, Prod.mk.injEq] at h
        obtain ⟨rfl, rfl⟩ := h
        obtain ⟨cs, h1, _, h2⟩ := viewA_ok hI.holds.objs (frz_sees M (hot s.σ (v.reach s.σ))) hv hR
        refine ⟨M.frz (hot s.σ (v.reach s.σ)), rfl, (frz_turn M _).le, frz_inv hI hf, ?_⟩
        simp only [Dat.av, R]
        exact ⟨cs, h1, h2⟩
  · cases h
    exact ⟨M, rfl, Mem.le.refl _, hI, hR⟩

theorem fitE_ok {obs : List OS} : ∀ (l : List Nat) (as : List AS) (s s' : St) (M : Mem), fitE obs l as s = some s' → Inv N w0 M s a → ∃ M', M'.w = M.w ∧ Inv N w0 M' s' a
  | [], [], s, s', M, h, hI => by simp only [fitE, Option.some.injEq] at h; subst h; exact ⟨M, rfl, hI⟩
  | [], _ :: _, _, _, _, h, _ => by simp [fitE] at h
  | _ :: _, [], _, _, _, h, _ => by simp [fitE] at h
  | i :: l, b :: as, s, s', M, h, hI => by
    simp only [fitE] at h
    cases hf : fitV obs b (lk s.env i) s with
    | none => simp [hf] at h
    | some p =>
      obtain ⟨v, s1⟩ := p
      simp only [hf] at h
      obtain ⟨M1, w1, l1, I1, k1⟩ := fitV_ok hf hI (hI.holds.slots i)
      have I2 : Inv N w0 M1 { s1 with env := (i, v) :: s1.env } a := by
        refine ⟨⟨fun k => ?_, I1.holds.args, I1.holds.objs, I1.holds.nx⟩, I1.frame, I1.defers, I1.size⟩
        show R M1 (lk ((i, v) :: s1.env) k) _
        rw [lk_cons]
        by_cases hk : k = i
        · rw [if_pos hk, hk]; exact k1
        · rw [if_neg hk]; exact I1.holds.slots k
      obtain ⟨M2, w2, I3⟩ := fitE_ok l as _ s' M1 h I2
      exact ⟨M2, w2.trans w1, I3⟩

end

/-! ### Taking the data -/

theorem fit_ok {M : Mem} : ∀ {t t' : Ty} {x : t'.den} {y : t.den} {cs : List Value}, Dat.fit t ⟨t', x⟩ = some y → rep M t' cs x → rep M t cs y ∧ t.isAgg = t'.isAgg := by
  have eq : ∀ {t t' : Ty} {x : t'.den} {y : t.den} {cs : List Value}, (Dat.mk t' x).as t = some y → rep M t' cs x → rep M t cs y ∧ t.isAgg = t'.isAgg := fun h hr => by
    have := as_eq h
    cases this
    exact ⟨hr, rfl⟩
  intro t
  induction t with
  | iptr e _ =>
    intro t' x y cs h hr
    cases t' with
    | nilp m =>
      cases m
      · simp only [Dat.fit] at h
        cases he : e.pure <;> simp only [he, cond_true, cond_false] at h
        · cases h
        cases h
        simp only [rep] at hr ⊢
        exact ⟨⟨he, .inl ⟨trivial, hr⟩⟩, rfl⟩
      · exact eq h hr
    | atl e' =>
      simp only [Dat.fit] at h
      cases ha : (Dat.mk e' x).as e with
      | none => simp [ha] at h
      | some y' =>
        simp only [ha, Option.some.injEq] at h
        subst h
        have := as_eq ha
        cases this
        simp only [rep] at hr ⊢
        obtain ⟨h1, b, off, cs', k1, k2, k3, k4, k5⟩ := hr
        exact ⟨⟨h1, .inr ⟨_, rfl, b, off, cs', k1, k2, k3, k4, k5⟩⟩, rfl⟩
    | _ => exact eq h hr
  | cons a b iha ihb =>
    intro t' x y cs h hr
    cases t' with
    | cons a' b' =>
      simp only [Dat.fit] at h
      cases hc : ((Ty.cons a' b').pure && (Ty.cons a' b').beq (.cons a b)) <;> simp only [hc, cond_true, cond_false] at h
      · cases h1 : Dat.fit a ⟨a', x.1⟩ with
        | none => simp [h1] at h
        | some y1 =>
        cases h2 : Dat.fit b ⟨b', x.2⟩ with
        | none => simp [h1, h2] at h
        | some y2 =>
          simp only [h1, h2, Option.some.injEq] at h
          subst h
          simp only [rep] at hr ⊢
          obtain ⟨c1, c2, rfl, r1, r2⟩ := hr
          exact ⟨⟨c1, c2, rfl, (iha h1 r1).1, (ihb h2 r2).1⟩, rfl⟩
      · exact eq h hr
    | _ => exact eq h hr
  | _ => intro t' x y cs h hr; exact eq h hr

theorem fit_pure : ∀ {t t' : Ty} {x : t'.den} {y : t.den}, Dat.fit t ⟨t', x⟩ = some y → t'.pure = true → t.pure = true := by
  have eq : ∀ {t t' : Ty} {x : t'.den} {y : t.den}, (Dat.mk t' x).as t = some y → t'.pure = true → t.pure = true := fun h hp => by
    have := as_eq h
    cases this
    exact hp
  intro t
  induction t with
  | iptr e _ => intro t' x y _ _; rfl
  | cons a b iha ihb =>
    intro t' x y h hp
    cases t' with
    | cons a' b' =>
      simp only [Dat.fit] at h
      cases hc : ((Ty.cons a' b').pure && (Ty.cons a' b').beq (.cons a b)) <;> simp only [hc, cond_true, cond_false] at h
      · cases h1 : Dat.fit a ⟨a', x.1⟩ with
        | none => simp [h1] at h
        | some y1 =>
        cases h2 : Dat.fit b ⟨b', x.2⟩ with
        | none => simp [h1, h2] at h
        | some y2 =>
          obtain ⟨p1, p2⟩ := pure_cons hp
          simp [Ty.pure, iha h1 p1, ihb h2 p2]
      · exact eq h hp
    | _ => exact eq h hp
  | _ => intro t' x y h hp; exact eq h hp

theorem void_eq : ∀ {t : Ty}, t.void = true → ∀ x y : t.den, x = y := by
  intro t
  induction t with
  | fn f c ih => intro h x y; exact ih (by simpa [Ty.void] using h) x y
  | ref i => intro _ x y; rfl
  | nilp m => intro _ x y; rfl
  | nil => intro _ x y; rfl
  | any => intro _ x y; rfl
  | _ => intro h; simp [Ty.void] at h

theorem take_ok {M : Mem} {b : AS} {v : AV} {u : Value} {y : b.den} (h : b.take v = some y) (hR : R M v u) : R M (b.fill y) u := by
  cases b with
  | undef => simp [AS.fill, R]
  | d t =>
    cases v <;> simp only [AS.take] at h <;> try (cases h; done)
    simp only [R, AS.fill] at hR ⊢
    obtain ⟨cs, h1, h2⟩ := hR
    obtain ⟨k1, k2⟩ := fit_ok h h2
    exact ⟨cs, by rw [valOf_agg k2]; exact h1, k1⟩
  | nilS =>
    cases v <;> simp only [AS.take] at h <;> try (cases h; done)
    simpa only [AS.fill] using hR

theorem base_ok' {M : Mem} {b : AS} {v : AV} {u : Value} (hv : b.void = true) (h : (b.take v).isSome = true) (hR : R M v u) : R M b.base u := by
  obtain ⟨y, hy⟩ := Option.isSome_iff_exists.1 h
  have := take_ok hy hR
  cases b with
  | undef => simp [AS.base, R]
  | d t => simp only [AS.fill, AS.base] at this ⊢; rw [void_eq (by simpa [AS.void] using hv) t.zero y]; exact this
  | nilS => exact this

theorem osTake_ok {M : Mem} {i : Nat} {o : OS} {ob : Ob} {y : o.den} (h : o.take ob = some y) (hO : OR M i ob) : OR M i (o.fill y) := by
  cases o <;> cases ob <;> simp only [OS.take] at h <;> try (cases h; done)
  · rename_i T t T' t' x
    cases hT : Nat.beq T T' <;> simp only [hT, cond_true, cond_false] at h
    · cases h
    have := Nat.eq_of_beq_eq_true hT
    subst this
    obtain ⟨b, cur, h1, h2, h3, h4⟩ := hO
    exact ⟨b, cur, h1, h2, h3, (fit_ok h h4).1⟩
  · rename_i T e T' e' l
    cases hT : Nat.beq T T' <;> simp only [hT, cond_true, cond_false] at h
    · cases h
    have := Nat.eq_of_beq_eq_true hT
    subst this
    have := as_eq h
    cases this
    exact hO
  · obtain ⟨hp, b, cs, h1, h2, h3, h4, h5⟩ := hO
    rename_i t t' x
    have h6 := (fit_ok h h5).1
    exact ⟨fit_pure h hp, b, cs, h1, h2, h3, h4, h6⟩
  · have := as_eq h
    cases this
    exact hO
  · exact hO.elim


theorem introB_some {α β : Type} {b : Bool} {f : Unit → Option α} {g : Unit → Option β} {x : (bif b then α else β)} (h : introB b f g = some x) :
    (b = true ∧ ∃ y, f () = some y ∧ ∀ {γ : Type} (F : α → γ) (G : β → γ), elimB b F G x = F y) ∨ (b = false ∧ ∃ y, g () = some y ∧ ∀ {γ : Type} (F : α → γ) (G : β → γ), elimB b F G x = G y) := by
  cases b
  · exact .inr ⟨rfl, x, h, fun _ _ => rfl⟩
  · exact .inl ⟨rfl, x, h, fun _ _ => rfl⟩

section
variable {M : Mem} {σ : Sto}

theorem takeV_ok : ∀ (l : List AS) (vs : List AV) (us : List Value), allVoid l = true → takeV l vs = true → RC M vs us → RC M (l.map AS.base) us
  | [], [], us, _, _, h => h
  | [], _ :: _, _, _, h, _ => by simp [takeV] at h
  | _ :: _, [], _, _, h, _ => by simp [takeV] at h
  | _ :: _, _ :: _, [], _, _, h => by simp [RC] at h
  | b :: l, v :: vs, u :: us, hv, ht, h => by
    simp only [allVoid, takeV, Bool.and_eq_true, RC, List.map_cons] at hv ht h ⊢
    exact ⟨base_ok' hv.1 ht.1 h.1, takeV_ok l vs us hv.2 ht.2 h.2⟩

theorem takeA_ok {obs : List OS} : ∀ (l : List AS) (vs : List AV) (us : List Value) (x : denA obs l), takeA σ obs l vs = some x → RC M vs us →
    RC M (fillA obs l x).1 us ∧ ∃ y, takeO σ 0 obs = some y ∧ (fillA obs l x).2 = fillO 0 obs y
  | [], [], us, x, h, hr => ⟨hr, x, h, rfl⟩
  | [], _ :: _, _, _, h, _ => by simp [takeA] at h
  | _ :: _, [], _, _, h, _ => by simp [takeA] at h
  | _ :: _, _ :: _, [], _, _, hr => by simp [RC] at hr
  | b :: l, v :: vs, u :: us, x, h, hr => by
    simp only [RC] at hr
    simp only [takeA] at h
    rcases introB_some h with ⟨hv, y, h1, h2⟩ | ⟨hv, y, h1, h2⟩
    · cases ht : (b.take v).isSome <;> simp only [ht, cond_true, cond_false] at h1
      · cases h1
      obtain ⟨k1, k2⟩ := takeA_ok l vs us y h1 hr.2
      simp only [fillA]
      rw [h2]
      simp only [RC]
      exact ⟨⟨base_ok' hv ht hr.1, k1⟩, k2⟩
    · rcases introB_some h1 with ⟨hw, z, h3, h4⟩ | ⟨hw, z, h3, h4⟩
      · cases ht : takeV l vs <;> simp only [ht, cond_true, cond_false] at h3
        · cases h3
        simp only [Bool.and_eq_true, List.isEmpty_iff] at hw
        simp only [fillA]
        rw [h2, h4]
        simp only [RC]
        obtain ⟨hw1, hw2⟩ := hw
        refine ⟨⟨take_ok h3 hr.1, takeV_ok l vs us hw1 ht hr.2⟩, ?_⟩
        subst hw2
        exact ⟨(), rfl, rfl⟩
      · cases h5 : b.take v with
        | none => simp [h5] at h3
        | some p =>
        cases h6 : takeA σ obs l vs with
        | none => simp [h5, h6] at h3
        | some q =>
          simp only [h5, h6, Option.some.injEq] at h3
          subst h3
          obtain ⟨k1, k2⟩ := takeA_ok l vs us q h6 hr.2
          simp only [fillA]
          rw [h2, h4]
          simp only [RC]
          exact ⟨⟨take_ok h5 hr.1, k1⟩, k2⟩

theorem takeO_ok : ∀ (obs : List OS) (i : Nat) (y : denO obs), takeO σ i obs = some y → ∀ id, (∃ o z, obs[id - i]? = some o ∧ i ≤ id ∧ o.take (lkO σ id) = some z ∧ lkO (fillO i obs y) id = o.fill z) ∨ lkO (fillO i obs y) id = .gone
  | [], _, _, _, _ => .inr rfl
  | [o], i, y, h, id => by
    simp only [takeO] at h
    simp only [fillO, lkO_cons]
    by_cases hid : id = i
    · subst hid
      rw [if_pos rfl]
      exact .inl ⟨o, y, by simp, Nat.le_refl _, h, rfl⟩
    · rw [if_neg hid]; exact .inr rfl
  | o :: o' :: l, i, y, h, id => by
    simp only [takeO] at h
    cases h1 : o.take (lkO σ i) with
    | none => simp [h1] at h
    | some p =>
    cases h2 : takeO σ (i + 1) (o' :: l) with
    | none => simp [h1, h2] at h
    | some q =>
      simp only [h1, h2, Option.some.injEq] at h
      subst h
      simp only [fillO, lkO_cons]
      by_cases hid : id = i
      · subst hid
        rw [if_pos rfl]
        exact .inl ⟨o, p, by simp, Nat.le_refl _, h1, rfl⟩
      · rw [if_neg hid]
        rcases takeO_ok (o' :: l) (i + 1) q h2 id with ⟨o2, z, k1, k2, k3, k4⟩ | k
        · refine .inl ⟨o2, z, ?_, by omega, k3, k4⟩
          have e : id - i = (id - (i + 1)) + 1 := by omega
          rw [e, List.getElem?_cons_succ]; exact k1
        · exact .inr k

theorem zip_ok {tm : Nat → Value} {av : List Value} : ∀ (env : List Nat) (F : List AV), RC M F (env.map tm ++ av) →
    (∀ k, R M (lk (zipE env F) k) (tm k)) ∧ RC M (dropL env F) av ∧ RC M ((zipE env F).map (·.2)) (env.map tm)
  | [], F, h => ⟨fun k => by simp [zipE, lk, R], by simpa [dropL] using h, by simp [zipE, RC]⟩
  | i :: env, [], h => by simp [RC] at h
  | i :: env, f :: F, h => by
    simp only [List.map_cons, List.cons_append, RC] at h
    obtain ⟨h1, h2, h3⟩ := zip_ok env F h.2
    refine ⟨fun k => ?_, by simpa [dropL] using h2, ?_⟩
    · simp only [zipE, lk_cons]
      by_cases hk : k = i
      · rw [if_pos hk, hk]; exact h.1
      · rw [if_neg hk]; exact h1 k
    · simp only [zipE, List.map_cons, RC]
      exact ⟨h.1, h3⟩

/-! ### Fewer names -/

def Mem.low (M : Mem) (n : Nat) : Mem := { M with nx := n }

theorem rep_low {n : Nat} : ∀ {t : Ty} {cs : List Value} {x : t.den}, rep M t cs x → (∀ i, i ∈ t.ids → i < n) → rep (M.low n) t cs x := by
  have pu : ∀ {t : Ty} {cs : List Value} {x : t.den}, t.pure = true → rep M t cs x → rep (M.low n) t cs x := fun hp h => rep_pure (M := M) (M' := M.low n) (fun b _ h => ⟨h, rfl⟩) hp h
  intro t
  induction t with
  | cons a b iha ihb =>
    intro cs x h hi
    simp only [rep] at h ⊢
    obtain ⟨c1, c2, rfl, h1, h2⟩ := h
    exact ⟨c1, c2, rfl, iha h1 (fun i hi' => hi i (by simp [Ty.ids, hi'])), ihb h2 (fun i hi' => hi i (by simp [Ty.ids, hi']))⟩
  | fn f c ih =>
    intro cs x h hi
    simp only [rep] at h ⊢
    obtain ⟨arr, h1, h2⟩ := h
    exact ⟨arr, h1, ih h2 (fun i hi' => hi i (by simpa [Ty.ids] using hi'))⟩
  | ref i =>
    intro cs x h hi
    simp only [rep] at h ⊢
    exact ⟨hi i (by simp [Ty.ids]), h.2⟩
  | arr n' e _ => intro cs x h _; exact pu (by have := h; simp only [rep] at this; simpa [Ty.pure] using this.1) h
  | int k => intro cs x h _; exact pu rfl h
  | bool => intro cs x h _; exact pu rfl h
  | str => intro cs x h _; exact pu rfl h
  | slice q e _ => intro cs x h _; exact pu rfl h
  | nil => intro cs x h _; exact pu rfl h
  | any => intro cs x h _; exact pu rfl h
  | nilp m => intro cs x h _; exact pu rfl h
  | iptr e _ => intro cs x h _; exact pu rfl h
  | atl e _ => intro cs x h _; exact pu rfl h

theorem ltAll_mem {n : Nat} : ∀ {l : List Nat}, ltAll n l = true → ∀ i, i ∈ l → i < n
  | [], _, _, h => by simp at h
  | j :: l, h, i, hi => by
    simp only [ltAll, Bool.and_eq_true, Nat.blt_eq] at h
    rcases List.mem_cons.1 hi with rfl | hi
    · exact h.1
    · exact ltAll_mem h.2 i hi

/-- The values of a shape. -/
inductive OfShape : AS → AV → Prop
  | fill (b : AS) (y : b.den) : OfShape b (b.fill y)
  | base (b : AS) : OfShape b b.base

theorem R_low {n : Nat} {b : AS} {v : AV} {u : Value} (hs : OfShape b v) (hi : ∀ i, i ∈ b.ids → i < n) (h : R M v u) : R (M.low n) v u := by
  have key : ∀ t x, v = .d t x → (∀ i, i ∈ t.ids → i < n) → R (M.low n) v u := fun t x e hi => by
    subst e
    simp only [R] at h ⊢
    obtain ⟨cs, h1, h2⟩ := h
    exact ⟨cs, h1, rep_low h2 hi⟩
  cases b with
  | undef => cases hs <;> simp [AS.fill, AS.base, R]
  | d t => cases hs <;> exact key t _ rfl hi
  | nilS => cases hs <;> simpa only [AS.fill, AS.base, R] using h

def OfShapes : List AS → List AV → Prop
  | [], [] => True
  | b :: l, v :: vs => OfShape b v ∧ OfShapes l vs
  | _, _ => False

theorem base_shapes : ∀ l : List AS, OfShapes l (l.map AS.base)
  | [] => trivial
  | b :: l => ⟨.base b, base_shapes l⟩

theorem elimB_cases {α β : Type} {b : Bool} (x : (bif b then α else β)) : (b = true ∧ ∃ y : α, ∀ {γ : Type} (F : α → γ) (G : β → γ), elimB b F G x = F y) ∨ (b = false ∧ ∃ y : β, ∀ {γ : Type} (F : α → γ) (G : β → γ), elimB b F G x = G y) := by
  cases b
  · exact .inr ⟨rfl, x, fun _ _ => rfl⟩
  · exact .inl ⟨rfl, x, fun _ _ => rfl⟩

theorem fill_shapes {obs : List OS} : ∀ (l : List AS) (x : denA obs l), OfShapes l (fillA obs l x).1
  | [], _ => trivial
  | b :: l, x => by
    simp only [fillA]
    rcases elimB_cases (b := b.void) x with ⟨_, y, h⟩ | ⟨_, y, h⟩
    · rw [h]; exact ⟨.base b, fill_shapes l y⟩
    · rw [h]
      rcases elimB_cases (b := (allVoid l && obs.isEmpty)) y with ⟨_, z, h'⟩ | ⟨_, z, h'⟩
      · rw [h']; exact ⟨.fill b z, base_shapes l⟩
      · rw [h']; exact ⟨.fill b z.1, fill_shapes l z.2⟩

theorem RC_low {n : Nat} : ∀ (l : List AS) (vs : List AV) (us : List Value), OfShapes l vs → (∀ i, i ∈ idsAS l → i < n) → RC M vs us → RC (M.low n) vs us
  | [], [], us, _, _, h => by cases us <;> simpa [RC] using h
  | [], _ :: _, _, h, _, _ => h.elim
  | _ :: _, [], _, h, _, _ => h.elim
  | b :: l, v :: vs, [], _, _, h => by simp [RC] at h
  | b :: l, v :: vs, u :: us, hs, hi, h => by
    simp only [RC] at h ⊢
    exact ⟨R_low hs.1 (fun i hi' => hi i (by simp [idsAS, hi'])) h.1, RC_low l vs us hs.2 (fun i hi' => hi i (by simp [idsAS, hi'])) h.2⟩

theorem idsOS_mem {o : OS} {i : Nat} (hi : i ∈ o.ids) : ∀ {l : List OS}, o ∈ l → i ∈ idsOS l
  | [], h => by simp at h
  | o' :: l, h => by
    rcases List.mem_cons.1 h with rfl | h
    · simp [idsOS, hi]
    · simp [idsOS, idsOS_mem hi h]

theorem OR_low {n i : Nat} {o : OS} {y : o.den} (hi : ∀ j, j ∈ o.ids → j < n) (h : OR M i (o.fill y)) : OR (M.low n) i (o.fill y) := by
  have pu : ∀ {t : Ty} {cs : List Value} {x : t.den}, t.pure = true → rep M t cs x → rep (M.low n) t cs x := fun hp h => rep_pure (M := M) (M' := M.low n) (fun b _ h => ⟨h, rfl⟩) hp h
  cases o with
  | box T t =>
    obtain ⟨b, cur, h1, h2, h3, h4⟩ := h
    exact ⟨b, cur, h1, h2, h3, rep_low h4 hi⟩
  | vec T e =>
    obtain ⟨he, ad, cap, h1, h2, h3, h4⟩ := h
    exact ⟨he, ad, cap, h1, h2, h3, h4.imp (fun h => h) fun ⟨g, cur, css, m1, m2, m3, m4, m5, m6⟩ => ⟨g, cur, css, m1, m2, m3, m4, m5, repAll_mono (fun _ _ => pu he) m6⟩⟩
  | ibox t =>
    obtain ⟨hp, b, cs, h1, h2, h3, h4, h5⟩ := h
    exact ⟨hp, b, cs, h1, h2, h3, h4, pu hp h5⟩
  | ivec e =>
    obtain ⟨he, ad, cap, h1, h2, h3, h4, h5⟩ := h
    refine ⟨he, ad, cap, h1, h2, h3, h4, fun ad' had => ?_⟩
    obtain ⟨g, css, m1, m2, m3, m4, m5⟩ := h5 ad' had
    exact ⟨g, css, m1, m2, m3, m4, repAll_mono (fun _ _ => pu he) m5⟩
  | map k e => exact h.elim

end

/-! ### Names in order -/

theorem bound (f : Nat → Nat) : ∀ n, ∃ B, ∀ i, i < n → f i < B
  | 0 => ⟨0, fun i h => absurd h (Nat.not_lt_zero i)⟩
  | n + 1 => by
    obtain ⟨B, hB⟩ := bound f n
    refine ⟨B + f n + 1, fun i hi => ?_⟩
    by_cases h : i = n
    · subst h; omega
    · have := hB i (by omega); omega

theorem lk_renEnv (f : Nat → Nat) (k : Nat) : ∀ env : Env, lk (renEnv f env) k = (lk env k).ren f
  | [] => by simp [renEnv, lk, AV.ren]
  | (j, v) :: env => by
    simp only [renEnv, lk_cons]
    by_cases h : k = j
    · rw [if_pos h, if_pos h]
    · rw [if_neg h, if_neg h]; exact lk_renEnv f k env

theorem lk_only (env : Env) (k : Nat) : ∀ l : List Nat, lk (l.map fun i => (i, lk env i)) k = lk env k ∨ lk (l.map fun i => (i, lk env i)) k = .undef
  | [] => .inr rfl
  | j :: l => by
    simp only [List.map_cons, lk_cons]
    by_cases h : k = j
    · rw [if_pos h, h]; exact .inl rfl
    · rw [if_neg h]; exact lk_only env k l

theorem Ren.frame {f g : Nat → Nat} {w : World} {own : Nat → Lab} {M M2 : Mem} (hF : Go.Lift.Frame w own M.w M.own) (hw : M2.w = M.w) (ho : ∀ b, M2.own b = (M.own b).ren f) : Go.Lift.Frame w own M2.w M2.own := by
  refine ⟨by rw [hw]; exact hF.os, by rw [hw]; exact hF.tape, by rw [hw]; exact hF.output, by rw [hw]; exact hF.size, fun b hb h => ?_⟩
  obtain ⟨h1, h2⟩ := hF.block b hb h
  refine ⟨by rw [hw]; exact h1, ?_⟩
  rw [ho, h2]
  rcases h with h | h <;> rw [h] <;> rfl

section
variable {N : Nat} {w0 : Entry} {M : Mem} {s : St} {a : Act}

/-- **A state that is brought to a shape.** -/
theorem pack_ok {h : Sh} {x : h.den} (hp : h.pack s = some x) (hI : Inv N w0 M s a) :
    ∃ M', M'.w = M.w ∧ Inv N w0 M' (h.fill x) a ∧ RC M' ((h.fill x).env.map (·.2)) (h.env.map (tmv a)) := by
  unfold Sh.pack at hp
  cases hok : h.okB <;> simp only [hok, cond_true, cond_false] at hp
  · cases hp
  cases hf : fitE h.obs h.env h.avs s with
  | none => simp [hf] at hp
  | some s' =>
  simp only [hf] at hp
  obtain ⟨M1, hw1, I1⟩ := fitE_ok _ _ _ _ M hf hI
  unfold Sh.take at hp
  cases hlen : Nat.beq h.env.length h.avs.length <;> simp only [hlen, cond_true, cond_false] at hp
  · cases hp
  obtain ⟨pr, hpr⟩ : ∃ pr, pr = number 0 (meet s'.σ 100 (idsL ((h.env.map fun i => (i, lk s'.env i)).map (·.2)) ++ idsL s'.args) []) [] := ⟨_, rfl⟩
  have hcan : s'.canon h.env = { env := renEnv (perm pr) (h.env.map fun i => (i, lk s'.env i)), args := renL (perm pr) s'.args, σ := renSto (perm pr) s'.σ, nx := s'.nx } := by
    rw [hpr]; rfl
  rw [hcan] at hp
  obtain ⟨B, hB⟩ := bound (perm pr) M1.nx
  obtain ⟨M2, hM2⟩ : ∃ M2 : Mem, M2 = { φ := fun i => M1.φ (perm pr.reverse i), nx := B, own := fun b => (M1.own b).ren (perm pr), w := M1.w } := ⟨_, rfl⟩
  have hren : Ren (perm pr) (perm pr.reverse) M1 M2 := by
    subst hM2
    exact ⟨perm_inv pr, fun i hi => hB i hi, fun i _ => by simp [perm_inv], rfl, fun b id _ h => by simp [h, Lab.ren]⟩
  have himm : Ren.Imm M1 M2 := by
    subst hM2
    intro b _ h
    simp [h, Lab.ren]
  have hF2 : Go.Lift.Frame w0.toWorld w0.own M2.w M2.own := Ren.frame (f := perm pr) (g := perm pr.reverse) I1.frame (by rw [hM2]) (fun b => by rw [hM2])
  have hslots : ∀ k, R M2 (lk (renEnv (perm pr) (h.env.map fun i => (i, lk s'.env i))) k) (tmv a k) := fun k => by
    rw [lk_renEnv]
    rcases lk_only s'.env k h.env with e | e
    · rw [e]; exact R_ren hren _ _ (.inl himm) (I1.holds.slots k)
    · rw [e]; simp [AV.ren, R]
  have hargs := RC_ren hren _ _ (.inl himm) I1.holds.args
  have hobjs := OS1_ren hren (.inl himm) I1.holds.objs
  have hRC : RC M2 (h.env.map (lk (renEnv (perm pr) (h.env.map fun i => (i, lk s'.env i)))) ++ renL (perm pr) s'.args) (h.env.map (tmv a) ++ w0.av) := by
    refine RC_append ?_ hargs
    have key : ∀ (env : Env) (l : List Nat), (∀ k, R M2 (lk env k) (tmv a k)) → RC M2 (l.map (lk env)) (l.map (tmv a)) := by
      intro env l hk
      induction l with
      | nil => simp [RC]
      | cons k l ih => simp only [List.map_cons, RC]; exact ⟨hk k, ih⟩
    exact key _ h.env hslots
  obtain ⟨k1, y, k2, k3⟩ := takeA_ok (h.avs ++ h.args) _ _ x hp hRC
  have hsh := fill_shapes (h.avs ++ h.args) x
  simp only [Sh.okB, Bool.and_eq_true] at hok
  have k4 := RC_low _ _ _ hsh (ltAll_mem hok.1) k1
  obtain ⟨z1, z2, z3⟩ := zip_ok h.env _ k4
  refine ⟨M2.low h.obs.length, ?_, ⟨⟨z1, z2, fun id => ?_, rfl⟩, hF2, I1.defers, I1.size⟩, z3⟩
  · show M2.w = M.w
    rw [hren.w, hw1]
  · show (lkO (fillA h.obs (h.avs ++ h.args) x).2 id = .gone ∨ _) ∧ OR _ id (lkO (fillA h.obs (h.avs ++ h.args) x).2 id)
    rw [k3]
    rcases takeO_ok h.obs 0 y k2 id with ⟨o, z, m1, _, m3, m4⟩ | m
    · rw [m4]
      have hlt : id < h.obs.length := (List.getElem?_eq_some_iff.1 (by simpa using m1)).1
      have hmem : o ∈ h.obs := List.mem_of_getElem? m1
      exact ⟨.inr hlt, OR_low (fun j hj => ltAll_mem hok.2 j (idsOS_mem hj hmem)) (osTake_ok m3 (hobjs id).2)⟩
    · rw [m]; exact ⟨.inl rfl, trivial⟩

end
end Go.Lift
