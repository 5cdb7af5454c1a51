import Derived.Test.YtbdbjamebjbhnaaPL38
set_option linter.all false
/- The statement CallMoves. -/
set_option linter.unusedSimpArgs false
set_option linter.unusedVariables false
namespace Go.Lift.S38
open Go Go.Lift Go.Lift.Ar Go.Lift.Gr

theorem check_other (b : t_api_Basin.den) (ro : List t_api_Right.den) (s : List Int) (G ex : List t_api_Point.den) (hs : ∀ x, x ∈ s → InR x) (hn : nP b ≤ 16) (hro : ro.length ≤ 64) (hex : ex.length ≤ 9223372036854775807) (hG : G ≠ dayL b ro s) : check b ro s G ex = some false := by
  obtain ⟨r, h1, h2⟩ := check_is b ro s G ex hs hn hro hex
  rw [h1]
  cases r
  · rfl
  · exact absurd (ChkP.only hs hn hro (h2.1 rfl)) hG

theorem refuse (b : t_api_Basin.den) (ro : List t_api_Right.den) (s : List Int) (G : List t_api_Point.den) (hs : ∀ x, x ∈ s → InR x) (hn : nP b ≤ 16) (hro : ro.length ≤ 64) (hG : G ≠ dayL b ro s) :
    (Option.bind (allEx b ro s G) fun r => Option.bind (check b ro s G r) fun r2 => some (!r2)) = some true := by
  rw [allEx_is b ro s G hs hn hro]
  simp only [Option.bind_some]
  rw [check_other b ro s G _ hs hn hro (by have := exL_len b ro s G hro; omega) hG]
  rfl

theorem moves_true (b : t_api_Basin.den) (ro : List t_api_Right.den) (s : List Int) (fr to le mo : Int) (hs : ∀ x, x ∈ s → InR x) : moves b ro s fr to le mo = some true := by
  unfold moves moves_body
  obtain ⟨f, f1, f2⟩ := few_is b ro (nilOf (Ty.den t_api_Grant))
  obtain ⟨m, m1, m2⟩ := modest_is s
  rw [small_true, f1, m1]
  simp only [Option.bind_some, sc_or]
  by_cases hc : (f = true ∧ m = true) ∧ 0 ≤ fr ∧ fr < (ro.length : Int) ∧ 0 ≤ to ∧ to < (ro.length : Int) ∧ fr ≠ to
  · obtain ⟨⟨hf, hm⟩, h1, h2, h3, h4, h5⟩ := hc
    subst hf
    subst hm
    obtain ⟨hn, hro, _⟩ := f2 rfl
    have hS := m2 rfl
    obtain ⟨i, rfl⟩ := Int.eq_ofNat_of_zero_le h1
    obtain ⟨j, rfl⟩ := Int.eq_ofNat_of_zero_le h3
    have hi : i < ro.length := by omega
    have hj : j < ro.length := by omega
    rw [decide_eq_false (show ¬ (i : Int) < 0 by omega), decide_eq_false (show ¬ (i : Int) ≥ (ro.length : Int) by omega), decide_eq_false (show ¬ (j : Int) < 0 by omega), decide_eq_false (show ¬ (j : Int) ≥ (ro.length : Int) by omega), beq_eq_false_iff_ne.2 h5]
    simp only [Bool.not_true, Bool.or_self, cond_false]
    have hd : day b ro s = some (dayL b ro s, _) := day_is b ro s hs hn (by omega)
    rw [hd]
    simp only [Option.bind_some]
    rw [dayL_length, bne_self_eq_false, cond_false, inb i ro.length hi, Int.toNat_natCast, Nat.zero_add, dayL_getD _ _ _ _ hi]
    have eg : (grL b ro s i).2.1 = gD b ro s i := rfl
    have hg := (day_halt b ro s hs hn (by omega) hS).1 i hi
    have hg2 := (mostI_le b ro i).1
    rw [eg]
    simp only [cond_true, sc_or, Option.bind_some]
    by_cases hx : 1 ≤ le ∧ le ≤ gD b ro s i ∧ 0 ≤ mo ∧ mo ≤ 1125899906842624
    · rw [decide_eq_false (show ¬ le < 1 by omega), decide_eq_false (show ¬ le > gD b ro s i by omega), decide_eq_false (show ¬ mo < 0 by omega), decide_eq_false (show ¬ mo > 1125899906842624 by omega)]
      simp only [Bool.or_self, cond_false]
      rw [List.length_set, dayL_length, inb j ro.length hj, Int.toNat_natCast, Nat.zero_add]
      simp only [cond_true, bind_eta]
      refine refuse b ro s _ hs hn (by omega) (fun e => ?_)
      have e2 := congrArg (fun l => (List.getD l i (Ty.zero t_api_Point)).2.1) e
      rw [getD_set, if_neg (fun hh => h5 (by rw [hh.1])), getD_set, if_pos ⟨rfl, by rw [dayL_length]; exact hi⟩, dayL_getD _ _ _ _ hi] at e2
      have e3 : wi (gD b ro s i - le) = gD b ro s i := e2
      rw [wi_id _ (by omega) (by omega)] at e3
      omega
    · have e : (decide (le < 1) || decide (le > gD b ro s i) || decide (mo < 0) || decide (mo > 1125899906842624)) = true := by
        simp only [Bool.or_eq_true, decide_eq_true_eq]; omega
      rw [e]; rfl
  · have e : (!f || !m || decide (fr < 0) || decide (fr ≥ (ro.length : Int)) || decide (to < 0) || decide (to ≥ (ro.length : Int)) || (fr == to)) = true := by
      cases f
      · rfl
      · cases m
        · rfl
        · simp only [Bool.or_eq_true, decide_eq_true_eq, beq_iff_eq, Bool.not_true, Bool.false_eq_true, false_or]
          apply Classical.byContradiction
          intro hh
          apply hc
          simp only [not_or] at hh
          exact ⟨⟨rfl, rfl⟩, by omega, by omega, by omega, by omega, hh.2⟩
    rw [e]; rfl
end Go.Lift.S38
