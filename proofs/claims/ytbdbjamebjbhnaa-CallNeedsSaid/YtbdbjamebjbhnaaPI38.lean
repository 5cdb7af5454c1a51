import Derived.Test.YtbdbjamebjbhnaaPH38
set_option linter.all false
/- Small functions of seat 38: comparing and finding. -/
set_option linter.unusedSimpArgs false
set_option linter.unusedVariables false
namespace Go.Lift.S38
open Go Go.Lift Go.Lift.Ar Go.Lift.Gr

theorem pt_eq (x y : t_api_Point.den) : (x.1 == y.1 && (x.2.1 == y.2.1 && true)) = decide (x = y) := by
  obtain ⟨a, b, ⟨⟩⟩ := x
  obtain ⟨c, d, ⟨⟩⟩ := y
  have e : (((a, b, ()) : t_api_Point.den) = (c, d, ())) ↔ a = c ∧ b = d := by simp
  by_cases h : a = c ∧ b = d
  · obtain ⟨rfl, rfl⟩ := h
    simp
  · rw [decide_eq_false (fun hh => h (e.1 hh))]
    rw [← Bool.not_eq_true]
    simp only [Bool.and_eq_true, beq_iff_eq, and_true]
    exact h

theorem hasX_loop_is (l : List t_api_Point.den) (x : t_api_Point.den) (hl : l.length ≤ 9223372036854775807) : ∀ (k i : Nat), l.length < i + k → i ≤ l.length →
    hasX_r_loop2 k l (i : Int) x = some (if x ∈ l.drop i then .inr true else .inl ()) := by
  intro k
  induction k with
  | zero => intro i h hi; omega
  | succ k ih =>
    intro i h hi0
    unfold hasX_r_loop2 hasX_r_loop2_step
    rw [Int.toNat_natCast, pt_eq]
    by_cases hi : i < l.length
    · rw [drop_cons l i (Ty.zero t_api_Point) hi, inb _ _ hi, decide_eq_true (show (i : Int) < (l.length : Int) by omega)]
      generalize List.getD l i (Ty.zero t_api_Point) = y at *
      simp only [cond_true]
      by_cases hx : y = x
      · subst hx
        rw [decide_eq_true rfl, cond_true, if_pos (by simp)]
      · rw [decide_eq_false hx, cond_false, wi_id ((i : Int) + 1) (by omega) (by omega)]
        have h2 := ih (i + 1) (by omega) (by omega)
        have h2' : hasX_r_loop2 k l ((i : Int) + 1) x = _ := h2
        rw [h2']
        by_cases hm : x ∈ l.drop (i + 1)
        · rw [if_pos hm, if_pos (by simp [hm])]
        · rw [if_neg hm, if_neg (by simp [hm]; exact fun e => hx e.symm)]
    · rw [decide_eq_false (show ¬ (i : Int) < (l.length : Int) by omega), cond_false, List.drop_eq_nil_of_le (by omega), if_neg (by simp)]

theorem hasX_is (l : List t_api_Point.den) (x : t_api_Point.den) (hl : l.length ≤ 9223372036854775807) : hasX_r l x = some (decide (x ∈ l)) := by
  unfold hasX_r hasX_r_body
  have h2 : hasX_r_loop2 FUEL l 0 x = _ := hasX_loop_is l x hl FUEL 0 (fuel_gt _ hl) (by omega)
  rw [h2, List.drop_zero]
  by_cases h : x ∈ l
  · rw [if_pos h, decide_eq_true h]; rfl
  · rw [if_neg h, decide_eq_false h]; rfl

theorem indexX_loop_is (s : List t_api_Point.den) (v : t_api_Point.den) (hl : s.length ≤ 9223372036854775807) : ∀ (k i : Nat), s.length < i + k → i ≤ s.length →
    (v ∉ s.drop i ∧ indexX_loop2 k s (s.length : Int) (i : Int) v = some (.inl ())) ∨ (v ∈ s.drop i ∧ ∃ j : Nat, indexX_loop2 k s (s.length : Int) (i : Int) v = some (.inr (j : Int))) := by
  intro k
  induction k with
  | zero => intro i h hi; omega
  | succ k ih =>
    intro i h hi0
    unfold indexX_loop2 indexX_loop2_step
    rw [Int.toNat_natCast, pt_eq]
    by_cases hi : i < s.length
    · rw [drop_cons s i (Ty.zero t_api_Point) hi, inb _ _ hi, decide_eq_true (show (i : Int) < (s.length : Int) by omega)]
      generalize List.getD s i (Ty.zero t_api_Point) = x at *
      simp only [cond_true]
      by_cases hx : v = x
      · subst hx
        rw [decide_eq_true rfl, cond_true]
        exact .inr ⟨by simp, i, rfl⟩
      · rw [decide_eq_false hx, cond_false, wi_id ((i : Int) + 1) (by omega) (by omega)]
        rcases ih (i + 1) (by omega) (by omega) with ⟨h1, h2⟩ | ⟨h1, h2⟩
        · exact .inl ⟨by simp [hx, h1], h2⟩
        · exact .inr ⟨by simp [h1], h2⟩
    · rw [decide_eq_false (show ¬ (i : Int) < (s.length : Int) by omega), cond_false, List.drop_eq_nil_of_le (by omega)]
      exact .inl ⟨by simp, rfl⟩

theorem containsX_is (s : List t_api_Point.den) (v : t_api_Point.den) (hl : s.length ≤ 9223372036854775807) : containsX s v = some (decide (v ∈ s)) := by
  unfold containsX containsX_body indexX indexX_body
  rcases indexX_loop_is s v hl FUEL 0 (fuel_gt _ hl) (by omega) with ⟨h1, h2⟩ | ⟨h1, j, h2⟩
  · have h2' : indexX_loop2 FUEL s (s.length : Int) 0 v = _ := h2
    rw [h2']
    rw [List.drop_zero] at h1
    simp only [Option.bind_some, Sum.elim, h1, decide_false, Option.some.injEq, decide_eq_false_iff_not]
    omega
  · have h2' : indexX_loop2 FUEL s (s.length : Int) 0 v = _ := h2
    rw [h2']
    rw [List.drop_zero] at h1
    simp only [Option.bind_some, Sum.elim, h1, decide_true, Option.some.injEq, decide_eq_true_eq]
    omega

theorem indexN_loop_is (s : List Int) (hl : s.length ≤ 9223372036854775807) : ∀ (k i : Nat), s.length < i + k → i ≤ s.length →
    ((∀ x, x ∈ s.drop i → 0 ≤ x) ∧ indexN_loop2 below k s (s.length : Int) (i : Int) = some (.inl ())) ∨ ((¬ ∀ x, x ∈ s.drop i → 0 ≤ x) ∧ ∃ j : Nat, indexN_loop2 below k s (s.length : Int) (i : Int) = some (.inr (j : Int))) := by
  intro k
  induction k with
  | zero => intro i h hi; omega
  | succ k ih =>
    intro i h hi0
    unfold indexN_loop2 indexN_loop2_step below below_body
    rw [Int.toNat_natCast]
    by_cases hi : i < s.length
    · rw [drop_cons s i 0 hi, inb _ _ hi, decide_eq_true (show (i : Int) < (s.length : Int) by omega)]
      generalize List.getD s i 0 = x at *
      simp only [cond_true, Option.bind_some]
      by_cases hx : x < 0
      · rw [decide_eq_true hx, cond_true]
        exact .inr ⟨fun h => by have := h x (by simp); omega, i, rfl⟩
      · rw [decide_eq_false hx, cond_false, wi_id ((i : Int) + 1) (by omega) (by omega)]
        rcases ih (i + 1) (by omega) (by omega) with ⟨h1, h2⟩ | ⟨h1, h2⟩
        · refine .inl ⟨fun y hy => ?_, h2⟩
          rcases List.mem_cons.1 hy with rfl | hy
          · omega
          · exact h1 y hy
        · exact .inr ⟨fun h => h1 fun y hy => h y (by simp [hy]), h2⟩
    · rw [decide_eq_false (show ¬ (i : Int) < (s.length : Int) by omega), cond_false, List.drop_eq_nil_of_le (by omega)]
      exact .inl ⟨fun x hx => (by cases hx), rfl⟩

theorem containsN_is (s : List Int) (hl : s.length ≤ 9223372036854775807) : ∃ r, containsN s = some r ∧ (r = true ↔ ¬ ∀ x, x ∈ s → 0 ≤ x) := by
  unfold containsN containsN_body indexN indexN_body
  rcases indexN_loop_is s hl FUEL 0 (fuel_gt _ hl) (by omega) with ⟨h1, h2⟩ | ⟨h1, j, h2⟩
  · have h2' : indexN_loop2 below FUEL s (s.length : Int) 0 = _ := h2
    rw [h2']
    rw [List.drop_zero] at h1
    exact ⟨false, rfl, fun h => (by cases h), fun h => absurd h1 h⟩
  · have h2' : indexN_loop2 below FUEL s (s.length : Int) 0 = _ := h2
    rw [h2']
    rw [List.drop_zero] at h1
    simp only [Option.bind_some, Sum.elim]
    exact ⟨_, rfl, fun _ => h1, fun _ => by simp⟩

theorem sameInts_refl (a : List Int) (hl : a.length ≤ 9223372036854775807) : sameInts a a = some true := by
  have key : ∀ (k i : Nat), a.length < i + k → i ≤ a.length → sameInts_loop4 k a a (i : Int) = some (.inl ()) := by
    intro k
    induction k with
    | zero => intro i h1 h2; omega
    | succ k ih =>
      intro i h1 h2
      unfold sameInts_loop4 sameInts_loop4_step
      rw [Int.toNat_natCast, bne_self_eq_false]
      by_cases hi : i < a.length
      · rw [inb _ _ hi, decide_eq_true (show (i : Int) < (a.length : Int) by omega), wi_id _ (by omega) (by omega)]
        exact ih (i + 1) (by omega) (by omega)
      · rw [decide_eq_false (show ¬ (i : Int) < (a.length : Int) by omega), cond_false]
  unfold sameInts sameInts_body
  have g : sameInts_loop4 FUEL a a 0 = _ := key FUEL 0 (fuel_gt _ hl) (by omega)
  rw [bne_self_eq_false, cond_false, g]
  rfl

theorem futile_is (b : t_api_Basin.den) (st : Int) (r : t_api_Right.den) (hn : nP b ≤ 16) : futile b st r = some (decide (0 ≤ st) && decide (st < (nP b : Int)) && !decide (st ∈ RS b (plR r))) ∧ futile_r b st r = futile b st r := by
  obtain ⟨r1, r2, r3, _⟩ := rch_is b hn (plR r)
  have r1' : rch b r.2.2.2.1 = some (RS b (plR r)) := r1
  have r2' : reach_r b r.2.2.2.1 = some (RS b (plR r)) := r2
  have hlen := r3.len
  have eL : (b.2.2.2.1.length : Int) = (nP b : Int) := rfl
  have h1 : futile b st r = some (decide (0 ≤ st) && decide (st < (nP b : Int)) && !decide (st ∈ RS b (plR r))) := by
    unfold futile futile_body
    rw [r1', eL]
    simp only [Option.bind_some, sc_and, bind_eta]
    rw [contains_is _ _ (by omega)]
    simp only [Option.bind_some]
    show (bif decide (0 ≤ st) && decide (st < (nP b : Int)) then some (!decide (st ∈ RS b (plR r))) else some false) = _
    cases (decide (0 ≤ st) && decide (st < (nP b : Int))) <;> rfl
  refine ⟨h1, ?_⟩
  rw [h1]
  unfold futile_r futile_r_body
  rw [r2', eL]
  simp only [Option.bind_some, sc_and, bind_eta]
  rw [has_is _ _ (by omega)]
  simp only [Option.bind_some]

theorem sameX_refl (a : List t_api_Point.den) (hl : a.length ≤ 9223372036854775807) : sameX a a = some true := by
  have key : ∀ (k i : Nat), a.length < i + k → i ≤ a.length → sameX_loop4 k a a (i : Int) = some (.inl ()) := by
    intro k
    induction k with
    | zero => intro i h1 h2; omega
    | succ k ih =>
      intro i h1 h2
      unfold sameX_loop4 sameX_loop4_step
      rw [Int.toNat_natCast, pt_eq, decide_eq_true rfl]
      by_cases hi : i < a.length
      · rw [inb _ _ hi, decide_eq_true (show (i : Int) < (a.length : Int) by omega), wi_id _ (by omega) (by omega)]
        exact ih (i + 1) (by omega) (by omega)
      · rw [decide_eq_false (show ¬ (i : Int) < (a.length : Int) by omega), cond_false]
  unfold sameX sameX_body
  have g : sameX_loop4 FUEL a a 0 = _ := key FUEL 0 (fuel_gt _ hl) (by omega)
  rw [bne_self_eq_false, cond_false, g]
  rfl

theorem sameG_refl (a : List t_api_Point.den) (hl : a.length ≤ 9223372036854775807) : sameG a a = some true := by
  have key : ∀ (k i : Nat), a.length < i + k → i ≤ a.length → sameG_loop4 k a a (i : Int) = some (.inl ()) := by
    intro k
    induction k with
    | zero => intro i h1 h2; omega
    | succ k ih =>
      intro i h1 h2
      unfold sameG_loop4 sameG_loop4_step
      rw [Int.toNat_natCast, pt_eq, decide_eq_true rfl]
      by_cases hi : i < a.length
      · rw [inb _ _ hi, decide_eq_true (show (i : Int) < (a.length : Int) by omega), wi_id _ (by omega) (by omega)]
        exact ih (i + 1) (by omega) (by omega)
      · rw [decide_eq_false (show ¬ (i : Int) < (a.length : Int) by omega), cond_false]
  unfold sameG sameG_body
  have g : sameG_loop4 FUEL a a 0 = _ := key FUEL 0 (fuel_gt _ hl) (by omega)
  rw [bne_self_eq_false, cond_false, g]
  rfl

theorem few_is (b : t_api_Basin.den) (ro : List t_api_Right.den) (gr : List t_api_Point.den) : ∃ r, few b ro gr = some r ∧ (r = true → nP b ≤ 16 ∧ ro.length ≤ 14 ∧ gr.length ≤ 20) := by
  unfold few few_body
  have eL : (b.2.2.2.1.length : Int) = (nP b : Int) := rfl
  rw [eL]
  simp only [sc_and, Option.bind_some]
  refine ⟨_, rfl, fun h => ?_⟩
  simp only [Bool.and_eq_true, decide_eq_true_eq] at h
  omega

/-- The supplies that count, together. -/
def sumP (s : List Int) : Nat → Int
  | 0 => 0
  | i + 1 => sumP s i + if s.getD i 0 > 0 then s.getD i 0 else 0

theorem sumP_mono (s : List Int) {i : Nat} : ∀ (j : Nat), i ≤ j → sumP s i ≤ sumP s j
  | 0, h => by have : i = 0 := by omega
               subst this; exact Int.le_refl _
  | j + 1, h => by
    by_cases e : i = j + 1
    · subst e; exact Int.le_refl _
    · have := sumP_mono s j (show i ≤ j by omega)
      simp only [sumP]
      split <;> omega

theorem BS_le (b : t_api_Basin.den) (s : List Int) (q : Int) : ∀ (i : Nat), sumP s i ≤ 9223372036854775807 → BS b s i q ≤ sumP s i
  | 0, _ => Int.le_refl _
  | i + 1, h => by
    have h1 := sumP_mono s (i := i) (i + 1) (by omega)
    have ih := BS_le b s q i (by omega)
    simp only [BS, sumP] at *
    split
    · rename_i hc
      have hp : 0 ≤ sumP s i := sumP_mono s i (Nat.zero_le _)
      unfold sat
      by_cases hg : s.getD i 0 > 0
      · rw [if_pos hg] at h ⊢
        (repeat' split) <;> omega
      · rw [if_neg hg] at h ⊢
        (repeat' split) <;> omega
    · split <;> omega

theorem modest_loop_is (s : List Int) : ∀ (k i : Nat), 16 < i + k → i ≤ 16 → sumP s i ≤ (i : Int) * 1125899906842624 → 0 ≤ sumP s i →
    (∃ r, modest_loop3 k s (sumP s i) (i : Int) = some (.inl r) ∧ r = sumP s 16) ∨ modest_loop3 k s (sumP s i) (i : Int) = some (.inr false) := by
  intro k
  induction k with
  | zero => intro i h hi; omega
  | succ k ih =>
    intro i h hi0 hS h0
    unfold modest_loop3 modest_loop3_step
    rw [Int.toNat_natCast]
    simp only [sc_and, Option.bind_some]
    by_cases hi : i < s.length ∧ i < 16
    · have e : (decide ((i : Int) < (s.length : Int)) && decide ((i : Int) < 16)) = true := by simp; omega
      rw [e, inb _ _ hi.1]
      simp only [cond_true]
      have hsu : sumP s (i + 1) = sumP s i + if s.getD i 0 > 0 then s.getD i 0 else 0 := rfl
      by_cases hx : s.getD i 0 > 1125899906842624
      · rw [decide_eq_true hx, cond_true]
        exact .inr rfl
      · rw [decide_eq_false hx, cond_false]
        have hb : (if s.getD i 0 > 0 then s.getD i 0 else 0) ≤ 1125899906842624 ∧ 0 ≤ (if s.getD i 0 > 0 then s.getD i 0 else 0) := by split <;> omega
        rw [← hsu, wi_id ((i : Int) + 1) (by omega) (by omega), wi_id (sumP s (i + 1)) (by omega) (by omega)]
        exact ih (i + 1) (by omega) (by omega) (by rw [hsu]; omega) (by omega)
    · have e : (decide ((i : Int) < (s.length : Int)) && decide ((i : Int) < 16)) = false := by
        rw [← Bool.not_eq_true, Bool.and_eq_true, decide_eq_true_eq, decide_eq_true_eq]; omega
      rw [e, cond_false]
      refine .inl ⟨_, rfl, ?_⟩
      have : ∀ j, i ≤ j → j ≤ 16 → sumP s j = sumP s i := by
        intro j
        induction j with
        | zero => intro a _; have : i = 0 := by omega
                  subst this; rfl
        | succ j ihj =>
          intro a c
          by_cases e2 : i = j + 1
          · rw [e2]
          · have := ihj (by omega) (by omega)
            simp only [sumP]
            rw [getD_far2 s j 0 (by omega), this]
            simp
      exact (this 16 (by omega) (Nat.le_refl _)).symm

theorem modest_is (s : List Int) : ∃ r, modest s = some r ∧ (r = true → sumP s 16 ≤ 1125899906842624) := by
  unfold modest modest_body
  rcases modest_loop_is s FUEL 0 (by have := fuel_gt 16 (by omega); omega) (by omega) (by simp [sumP]) (by simp [sumP]) with ⟨r, g1, g2⟩ | g1
  · have g1' : modest_loop3 FUEL s 0 0 = _ := g1
    rw [g1']
    refine ⟨_, rfl, fun h => ?_⟩
    simp only [decide_eq_true_eq] at h
    rw [← g2]; exact h
  · have g1' : modest_loop3 FUEL s 0 0 = _ := g1
    rw [g1']
    exact ⟨false, rfl, fun h => by cases h⟩
end Go.Lift.S38
