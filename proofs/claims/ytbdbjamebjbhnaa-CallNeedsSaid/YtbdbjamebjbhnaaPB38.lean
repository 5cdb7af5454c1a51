import Derived.Test.YtbdbjamebjbhnaaPA38
set_option linter.all false
/- allot.Day. -/
set_option linter.unusedSimpArgs false
set_option linter.unusedVariables false
namespace Go.Lift.S38
open Go Go.Lift Go.Lift.Ar Go.Lift.Gr

/-- What is there at q from the first i places. -/
noncomputable def BS (b : t_api_Basin.den) (s : List Int) : Nat → Int → Int
  | 0, _ => 0
  | i + 1, q => if i < s.length ∧ 0 ≤ s.getD i 0 ∧ q ∈ RS b (i : Int) then sat (BS b s i q + s.getD i 0) else BS b s i q

theorem BS_in (b : t_api_Basin.den) (s : List Int) (hs : ∀ x, x ∈ s → InR x) : ∀ (i : Nat) (q : Int), 0 ≤ BS b s i q ∧ InR (BS b s i q)
  | 0, q => ⟨Int.le_refl _, by show InR 0; unfold InR; omega⟩
  | i + 1, q => by
    obtain ⟨h1, h2⟩ := BS_in b s hs i q
    simp only [BS]
    split
    · rename_i h
      refine ⟨?_, sat_in _⟩
      unfold sat
      split <;> (try split) <;> omega
    · exact ⟨h1, h2⟩

noncomputable abbrev MS (b : t_api_Basin.den) (s : List Int) : Int → Int := BS b s (nP b)

theorem loop7_is (roster : List t_api_Right.den) (s : List Int) (p : Nat) (x y : Int) (l : List Int) (b : t_api_Basin.den) (hp : p < s.length) (hs : InR (s.getD p 0)) (hl : Good (nP b) l) (hn : nP b ≤ 16) :
    ∀ (k i : Nat) (d : List Int), l.length < i + k → i ≤ l.length → d.length = nP b → (∀ j, InR (d.getD j 0)) →
      day_loop7 add rch least k roster s (p : Int) x y l (l.length : Int) (i : Int) b d = some (roster, s, x, y, b, upd (fun v => sat (v + s.getD p 0)) d (l.drop i)) := by
  have hll := hl.len
  intro k
  induction k with
  | zero => intro i d h hi; omega
  | succ k ih =>
    intro i d h hi0 hd hr
    unfold day_loop7 day_loop7_step
    rw [Int.toNat_natCast]
    by_cases hi : i < l.length
    · have hb := hl.2 _ (getD_mem l i 0 hi)
      rw [drop_cons l i 0 hi, inb _ _ hi, decide_eq_true (show (i : Int) < (l.length : Int) by omega), inb p s.length hp, Int.toNat_natCast]
      simp only [cond_true, upd]
      generalize List.getD l i 0 = q at *
      have e : (decide (0 ≤ q) && decide (q < (d.length : Int))) = true := by simp; omega
      rw [e, Nat.zero_add, add_eq _ _ (hr _) hs]
      simp only [cond_true, Option.bind_some]
      rw [wi_id ((i : Int) + 1) (by omega) (by omega)]
      exact ih (i + 1) _ (by omega) (by omega) (by rw [List.length_set]; exact hd) (fun j => by
        rw [getD_set]; split
        · exact sat_in _
        · exact hr j)
    · rw [decide_eq_false (show ¬ (i : Int) < (l.length : Int) by omega), cond_false, List.drop_eq_nil_of_le (by omega)]
      rfl

theorem loop3_is (roster : List t_api_Right.den) (s : List Int) (b : t_api_Basin.den) (hs : ∀ x, x ∈ s → InR x) (hn : nP b ≤ 16) :
    ∀ (k i : Nat) (d : List Int), nP b < i + k → i ≤ nP b → d.length = nP b → (∀ j : Nat, j < nP b → d.getD j 0 = BS b s i (j : Int)) →
      ∃ d', day_loop3 add rch least k roster s (nP b : Int) (i : Int) b d = some (roster, b, d') ∧ d'.length = nP b ∧ ∀ j : Nat, j < nP b → d'.getD j 0 = MS b s (j : Int) := by
  intro k
  induction k with
  | zero => intro i d h hi; omega
  | succ k ih =>
    intro i d h hi0 hd hr
    unfold day_loop3 day_loop3_step
    by_cases hi : i < nP b
    · rw [decide_eq_true (show (i : Int) < (nP b : Int) by omega), cond_true, Int.toNat_natCast]
      by_cases hc : i < s.length ∧ 0 ≤ s.getD i 0
      · rw [decide_eq_false (show ¬ (i : Int) ≥ (s.length : Int) by omega), inb _ _ hc.1, decide_eq_false (show ¬ s.getD i 0 < 0 by omega)]
        obtain ⟨r1, _, r3, _⟩ := rch_is b hn (i : Int)
        simp only [cond_false, cond_true, Option.bind_some]
        rw [r1]
        simp only [Option.bind_some]
        have hs' := hs _ (getD_mem s i 0 hc.1)
        have hrd : ∀ j, InR (d.getD j 0) := fun j => by
          by_cases hj : j < nP b
          · rw [hr j hj]; exact (BS_in b s hs i _).2
          · rw [getD_far2 _ _ _ (by omega)]; unfold InR; omega
        have g : day_loop7 add rch least FUEL roster s (i : Int) (nP b : Int) (i : Int) (RS b i) ((RS b i).length : Int) 0 b d = _ := loop7_is roster s i (nP b : Int) (i : Int) (RS b i) b hc.1 hs' r3 hn FUEL 0 d (fuel_gt _ (by have := r3.len; omega)) (by omega) hd hrd
        rw [g, List.drop_zero]
        simp only [Option.bind_some]
        rw [wi_id ((i : Int) + 1) (by omega) (by omega)]
        refine ih (i + 1) _ (by omega) (by omega) (by rw [upd_length]; exact hd) (fun j hj => ?_)
        rw [upd_getD _ _ _ r3.1 (fun x hx => by rw [hd]; exact r3.2 x hx), hr j hj]
        simp only [BS]
        by_cases hm : (j : Int) ∈ RS b (i : Int)
        · rw [if_pos hm, if_pos ⟨hc.1, hc.2, hm⟩]
        · rw [if_neg hm, if_neg (fun h => hm h.2.2)]
      · have e : (bif decide ((i : Int) ≥ (s.length : Int)) then some true else bif decide ((0 : Int) ≤ (i : Int)) && decide ((i : Int) < (s.length : Int)) then some (decide (s.getD i 0 < 0)) else none) = some true := by
          by_cases h1 : i < s.length
          · rw [decide_eq_false (show ¬ (i : Int) ≥ (s.length : Int) by omega), inb _ _ h1, decide_eq_true (show s.getD i 0 < 0 by omega)]; rfl
          · rw [decide_eq_true (show (i : Int) ≥ (s.length : Int) by omega)]; rfl
        rw [e]
        simp only [Option.bind_some, cond_true]
        rw [wi_id ((i : Int) + 1) (by omega) (by omega)]
        refine ih (i + 1) _ (by omega) (by omega) hd (fun j hj => ?_)
        rw [hr j hj]
        simp only [BS]
        rw [if_neg (fun h => hc ⟨h.1, h.2.1⟩)]
    · have : i = nP b := by omega
      subst this
      rw [decide_eq_false (show ¬ (nP b : Int) < (nP b : Int) by omega), cond_false]
      exact ⟨d, rfl, hd, hr⟩

/-! ### the rights, one after the other -/

def plR (r : t_api_Right.den) : Int := r.2.2.2.1
def rtR (r : t_api_Right.den) : Int := r.2.2.2.2.1
def idR (r : t_api_Right.den) : Int := r.1
noncomputable def rR (b : t_api_Basin.den) (ro : List t_api_Right.den) (i : Nat) : List Int := RS b (plR (ro.getD i (Ty.zero t_api_Right)))
def rateR (ro : List t_api_Right.den) (i : Nat) : Int := rtR (ro.getD i (Ty.zero t_api_Right))

theorem least_loop_is (left l : List Int) (hin : ∀ x, x ∈ l → 0 ≤ x ∧ x < (left.length : Int)) (hl : l.length ≤ 64) : ∀ (k i : Nat) (n : Int), l.length < i + k → i ≤ l.length →
    least_loop2 k n left l (l.length : Int) (i : Int) = some (leastS (fun q => left.getD q.toNat 0) n (l.drop i)) := by
  intro k
  induction k with
  | zero => intro i n h hi; omega
  | succ k ih =>
    intro i n h hi0
    unfold least_loop2 least_loop2_step
    rw [Int.toNat_natCast]
    by_cases hi : i < l.length
    · have hb := hin _ (getD_mem l i 0 hi)
      rw [drop_cons l i 0 hi, inb _ _ hi, decide_eq_true (show (i : Int) < (l.length : Int) by omega)]
      simp only [cond_true, leastS]
      generalize List.getD l i 0 = q at *
      have e : (decide (0 ≤ q) && decide (q < (left.length : Int))) = true := by simp; omega
      rw [e, cond_true, wi_id ((i : Int) + 1) (by omega) (by omega)]
      exact ih (i + 1) _ (by omega) (by omega)
    · rw [decide_eq_false (show ¬ (i : Int) < (l.length : Int) by omega), cond_false, List.drop_eq_nil_of_le (by omega)]
      rfl

theorem least_is (n : Int) (left l : List Int) (hin : ∀ x, x ∈ l → 0 ≤ x ∧ x < (left.length : Int)) (hl : l.length ≤ 64) : least n left l = some (leastS (fun q => left.getD q.toNat 0) n l) := by
  unfold least least_body
  rw [bind_eta]
  have := least_loop_is left l hin hl FUEL 0 n (fuel_gt _ (by omega)) (by omega)
  rw [List.drop_zero] at this
  exact this

theorem loop21_is (n : Int) (ro : List t_api_Right.den) (x y : Int) (l : List Int) (b : t_api_Basin.den) (out : List t_api_Point.den) (r : t_api_Right.den) (hl : Good (nP b) l) (hn : nP b ≤ 16) :
    ∀ (k i : Nat) (d : List Int), l.length < i + k → i ≤ l.length → d.length = nP b →
      day_loop21v3 add rch least k n ro x y l (l.length : Int) (i : Int) b d out r = some (n, ro, x, y, b, upd (fun v => wi (v - n)) d (l.drop i), out, r) := by
  have hll := hl.len
  intro k
  induction k with
  | zero => intro i d h hi; omega
  | succ k ih =>
    intro i d h hi0 hd
    unfold day_loop21v3 day_loop21v3_step
    rw [Int.toNat_natCast]
    by_cases hi : i < l.length
    · have hb := hl.2 _ (getD_mem l i 0 hi)
      rw [drop_cons l i 0 hi, inb _ _ hi, decide_eq_true (show (i : Int) < (l.length : Int) by omega)]
      simp only [cond_true, upd]
      generalize List.getD l i 0 = q at *
      have e : (decide (0 ≤ q) && decide (q < (d.length : Int))) = true := by simp; omega
      rw [e, Nat.zero_add]
      simp only [cond_true]
      rw [wi_id ((i : Int) + 1) (by omega) (by omega)]
      exact ih (i + 1) _ (by omega) (by omega) (by rw [List.length_set]; exact hd)
    · rw [decide_eq_false (show ¬ (i : Int) < (l.length : Int) by omega), cond_false, List.drop_eq_nil_of_le (by omega)]
      rfl

noncomputable abbrev gD (b : t_api_Basin.den) (ro : List t_api_Right.den) (s : List Int) : Nat → Int := gS (rR b ro) (rateR ro) (MS b s)
/-- The grants as the program writes them. -/
noncomputable def grL (b : t_api_Basin.den) (ro : List t_api_Right.den) (s : List Int) (i : Nat) : t_api_Point.den := (idR (ro.getD i (Ty.zero t_api_Right)), gD b ro s i, ())

theorem fl_in (b : t_api_Basin.den) (ro : List t_api_Right.den) (s : List Int) (hs : ∀ x, x ∈ s → InR x) (i : Nat) (q : Int) : 0 ≤ fl (rR b ro) (MS b s) (gD b ro s) i q ∧ fl (rR b ro) (MS b s) (gD b ro s) i q ≤ 9223372036854775807 := by
  have hD := day_gS (rR b ro) (rateR ro) (MS b s) (i + 1)
  have h0 := fun q => BS_in b s hs (nP b) q
  refine ⟨Day.left hD (fun j _ q _ => (h0 q).1) i (by omega) q (h0 q).1, ?_⟩
  have h1 := fl_le (R := rR b ro) (L0 := MS b s) (g := gD b ro s) (q := q) (i := 0) (m := i) (by omega) (fun j _ hj => hD.nonneg (by omega))
  have h2 : fl (rR b ro) (MS b s) (gD b ro s) 0 q = MS b s q := rfl
  have h3 := (h0 q).2
  unfold InR at h3
  have h4 : MS b s q ≤ 9223372036854775807 := h3.2
  omega

theorem loop14_is (ro : List t_api_Right.den) (s : List Int) (b : t_api_Basin.den) (hs : ∀ x, x ∈ s → InR x) (hn : nP b ≤ 16) (hro : ro.length ≤ 64) :
    ∀ (k i : Nat) (d : List Int) (out : List t_api_Point.den), ro.length < i + k → i ≤ ro.length → d.length = nP b → (∀ j : Nat, j < nP b → d.getD j 0 = fl (rR b ro) (MS b s) (gD b ro s) i (j : Int)) → out = (List.range i).map (grL b ro s) →
      ∃ d', day_loop14 add rch least k ro (ro.length : Int) (i : Int) b d out = some (d', (List.range ro.length).map (grL b ro s)) ∧ d'.length = nP b ∧ ∀ j : Nat, j < nP b → d'.getD j 0 = fl (rR b ro) (MS b s) (gD b ro s) ro.length (j : Int) := by
  intro k
  induction k with
  | zero => intro i d out h hi; omega
  | succ k ih =>
    intro i d out h hi0 hd hr ho
    unfold day_loop14 day_loop14_step
    by_cases hi : i < ro.length
    · rw [inb _ _ hi, decide_eq_true (show (i : Int) < (ro.length : Int) by omega), Int.toNat_natCast]
      simp only [cond_true]
      obtain ⟨r1, _, r3, r4⟩ := rch_is b hn (plR (ro.getD i (Ty.zero t_api_Right)))
      have r1' : rch b (List.getD ro i (Ty.zero t_api_Right)).2.2.2.1 = some (rR b ro i) := r1
      have r3' : Good (nP b) (rR b ro i) := r3
      have hlen := r3'.len
      rw [r1']
      simp only [Option.bind_some]
      rw [least_is _ d (rR b ro i) (fun x hx => by rw [hd]; exact r3'.2 x hx) (by omega)]
      simp only [Option.bind_some]
      have eL : leastS (fun q => d.getD q.toNat 0) (List.getD ro i (Ty.zero t_api_Right)).2.2.2.2.1 (rR b ro i) = leastS (fl (rR b ro) (MS b s) (gD b ro s) i) (rateR ro i) (rR b ro i) := by
        show leastS _ (rateR ro i) _ = _
        refine leastS_congr fun q hq => ?_
        have hb := r3'.2 q hq
        show d.getD q.toNat 0 = _
        rw [hr q.toNat (by omega), Int.toNat_of_nonneg hb.1]
      rw [eL]
      have hD := day_gS (rR b ro) (rateR ro) (MS b s) (i + 1)
      have hg : ∀ (q : Int), q ∈ rR b ro i → gD b ro s i ≤ fl (rR b ro) (MS b s) (gD b ro s) i q := fun q hq => by
        have hR : rR b ro i ≠ [] := fun e => by rw [e] at hq; cases hq
        have h1 := hD.some i (by omega) hR
        have h2 := (leastS_le (fl (rR b ro) (MS b s) (gD b ro s) i) (rR b ro i) (rateR ro i)).2 q hq
        have h3 := (fl_in b ro s hs i q).1
        show gS (rR b ro) (rateR ro) (MS b s) i ≤ _
        rw [h1]
        split <;> omega
      have hg0 : 0 ≤ gD b ro s i := hD.nonneg (by omega)
      -- what is taken
      have next : ∀ (nn : Int), nn = gD b ro s i → ∃ d2, day_loop21v3 add rch least FUEL nn ro (ro.length : Int) (i : Int) (rR b ro i) ((rR b ro i).length : Int) 0 b d out (List.getD ro i (Ty.zero t_api_Right)) = some (nn, ro, (ro.length : Int), (i : Int), b, d2, out, List.getD ro i (Ty.zero t_api_Right)) ∧
          d2.length = nP b ∧ ∀ j : Nat, j < nP b → d2.getD j 0 = fl (rR b ro) (MS b s) (gD b ro s) (i + 1) (j : Int) := by
        intro nn hnn
        have g : day_loop21v3 add rch least FUEL nn ro (ro.length : Int) (i : Int) (rR b ro i) ((rR b ro i).length : Int) 0 b d out (List.getD ro i (Ty.zero t_api_Right)) = _ := loop21_is nn ro (ro.length : Int) (i : Int) (rR b ro i) b out (List.getD ro i (Ty.zero t_api_Right)) r3' hn FUEL 0 d (fuel_gt _ (by omega)) (by omega) hd
        rw [g, List.drop_zero]
        refine ⟨_, rfl, by rw [upd_length]; exact hd, fun j hj => ?_⟩
        rw [upd_getD _ _ _ r3'.1 (fun x hx => by rw [hd]; exact r3'.2 x hx), hr j hj]
        simp only [fl]
        by_cases hm : (j : Int) ∈ rR b ro i
        · have h1 := hg _ hm
          have h2 := fl_in b ro s hs i (j : Int)
          rw [if_pos hm, if_pos hm, hnn, wi_id _ (by omega) (by omega)]
        · rw [if_neg hm, if_neg hm]; omega
      have ho1 : out.length = i := by rw [ho]; simp
      have ho2 : out ++ [((List.getD ro i (Ty.zero t_api_Right)).1, gD b ro s i, PUnit.unit)] = (List.range (i + 1)).map (grL b ro s) := by
        rw [List.range_succ, List.map_append, ho]; rfl
      by_cases hR : rR b ro i = []
      · have hz : (0 : Int) = gD b ro s i := (hD.none i (by omega) hR).symm
        obtain ⟨d2, g1, g2, g3⟩ := next 0 hz
        have e0 : (((rR b ro i).length : Int) == 0) = true := by rw [hR]; rfl
        rw [e0, cond_true, g1]
        simp only [Option.bind_some]
        rw [app1, roomD (by rw [List.length_append, ho1]; simp; omega), cond_true, wi_id ((i : Int) + 1) (by omega) (by omega)]
        have ho3 := ho2
        rw [← hz] at ho3
        exact ih (i + 1) d2 _ (by omega) (by omega) g2 g3 ho3
      · have hz : (if leastS (fl (rR b ro) (MS b s) (gD b ro s) i) (rateR ro i) (rR b ro i) > 0 then leastS (fl (rR b ro) (MS b s) (gD b ro s) i) (rateR ro i) (rR b ro i) else 0) = gD b ro s i := (hD.some i (by omega) hR).symm
        have e0 : (((rR b ro i).length : Int) == 0) = false := by
          rw [beq_eq_false_iff_ne]
          intro e
          exact hR (List.eq_nil_of_length_eq_zero (by omega))
        rw [e0, cond_false, hz]
        obtain ⟨d2, g1, g2, g3⟩ := next (gD b ro s i) rfl
        rw [g1]
        simp only [Option.bind_some]
        rw [app1, roomD (by rw [List.length_append, ho1]; simp; omega), cond_true, wi_id ((i : Int) + 1) (by omega) (by omega)]
        exact ih (i + 1) d2 _ (by omega) (by omega) g2 g3 ho2
    · have : i = ro.length := by omega
      subst this
      rw [decide_eq_false (show ¬ (ro.length : Int) < (ro.length : Int) by omega), cond_false]
      exact ⟨d, by rw [ho], hd, hr⟩

/-- What is left. -/
noncomputable def lfL (b : t_api_Basin.den) (f : Int → Int) : List Int := (List.range (nP b)).map fun i : Nat => f (i : Int)
theorem lfL_length (b : t_api_Basin.den) (f : Int → Int) : (lfL b f).length = nP b := by simp [lfL]
theorem lfL_getD (b : t_api_Basin.den) (f : Int → Int) (i : Nat) (h : i < nP b) : (lfL b f).getD i 0 = f (i : Int) := getD_map_range _ _ _ _ h

theorem day_is (b : t_api_Basin.den) (ro : List t_api_Right.den) (s : List Int) (hs : ∀ x, x ∈ s → InR x) (hn : nP b ≤ 16) (hro : ro.length ≤ 64) :
    day b ro s = some ((List.range ro.length).map (grL b ro s), lfL b (fl (rR b ro) (MS b s) (gD b ro s) ro.length)) := by
  unfold day day_body
  have eL : (b.2.2.2.1.length : Int) = (nP b : Int) := rfl
  rw [eL, room4 (by omega) (by omega), Int.toNat_natCast]
  simp only [cond_true]
  obtain ⟨d, h1, h2, h3⟩ := loop3_is ro s b hs hn FUEL 0 (List.replicate (nP b) 0) (fuel_gt _ (by omega)) (by omega) (by simp) (fun j hj => by rw [getD_replicate _ _ _ _ hj]; rfl)
  have h1' : day_loop3 add rch least FUEL ro s (nP b : Int) 0 b (List.replicate (nP b) 0) = some (ro, b, d) := h1
  rw [h1']
  simp only [Option.bind_some]
  obtain ⟨d', g1, g2, g3⟩ := loop14_is ro s b hs hn hro FUEL 0 d [] (fuel_gt _ (by omega)) (by omega) h2 h3 rfl
  have g1' : day_loop14 add rch least FUEL ro (ro.length : Int) 0 b d (nilOf t_api_Point.den) = _ := g1
  have g1'' : day_loop14 add rch least FUEL ro (ro.length : Int) 0 b d (nilOf (Ty.den t_api_Point)) = _ := g1'
  rw [g1'']
  simp only [Option.bind_some, Option.some.injEq, Prod.mk.injEq, true_and]
  refine ext_getD (by rw [g2, lfL_length]) fun i hi => ?_
  rw [g3 i (by omega), lfL_getD _ _ _ (by omega)]
end Go.Lift.S38
