import Derived.Test.YtnbknlaejebjbaaPD17
import Derived.Test.YtnbknlaejebjbaaPL
set_option linter.all false
/- exact.Scale. -/
set_option linter.unusedSimpArgs false
set_option linter.unusedVariables false
namespace Go.Lift.S17
open Go Go.Lift Go.Lift.Ar

theorem in_eq (n low : Int) : in_ n low = some (decide (low ≤ n) && decide (n ≤ 1125899906842624)) := by
  unfold in_ in__body
  rw [sc_and]
  rfl

theorem scale_eq (a num den : Int) : scale a num den =
    some (if 0 ≤ a ∧ a ≤ 1125899906842624 ∧ 0 ≤ num ∧ num ≤ 1125899906842624 ∧ 1 ≤ den ∧ den ≤ 1125899906842624 ∧ a * num / den ≤ 1125899906842624 then (a * num / den, a * num % den, true) else (0, 0, false)) := by
  unfold scale scale_body
  simp only [in_eq, Option.bind_some, sc_or]
  by_cases h : 0 ≤ a ∧ a ≤ 1125899906842624 ∧ 0 ≤ num ∧ num ≤ 1125899906842624 ∧ 1 ≤ den ∧ den ≤ 1125899906842624
  · obtain ⟨h1, h2, h3, h4, h5, h6⟩ := h
    have e1 : (!(decide (0 ≤ a) && decide (a ≤ 1125899906842624)) || !(decide (0 ≤ num) && decide (num ≤ 1125899906842624)) || !(decide (1 ≤ den) && decide (den ≤ 1125899906842624))) = false := by simp [h1, h2, h3, h4, h5, h6]
    rw [e1, cond_false, wu_id a (by omega) (by omega), wu_id num (by omega) (by omega), wu_id den (by omega) (by omega), mul64_eq a num h1 (by omega) h3 (by omega)]
    have hp0 : 0 ≤ a * num := Int.mul_nonneg h1 h3
    have hp1 : a * num ≤ 1125899906842624 * 1125899906842624 := Int.mul_le_mul h2 h4 h3 (by decide)
    simp only [Option.bind_some, h1, h2, h3, h4, h5, h6, true_and]
    generalize a * num = p at *
    have hq0 : 0 ≤ p / den := Int.ediv_nonneg hp0 (by omega)
    have hr0 := Int.emod_nonneg p (show den ≠ 0 by omega)
    have hr1 := Int.emod_lt_of_pos p (show 0 < den by omega)
    by_cases hb : p / 18446744073709551616 ≥ den
    · simp only [hb, decide_true, cond_true]
      have : 1125899906842625 ≤ p / den := (Int.le_ediv_iff_mul_le (by omega)).2 (by omega)
      rw [if_neg (by omega)]
    · simp only [hb, decide_false, cond_false]
      rw [div64_eq _ _ _ (by omega) (by omega) (by omega) (by omega) (by omega), show p / 18446744073709551616 * 18446744073709551616 + p % 18446744073709551616 = p by omega]
      simp only [Option.bind_some]
      by_cases hc : p / den > 1125899906842624
      · simp only [hc, decide_true, cond_true]
        rw [if_neg (by omega)]
      · simp only [hc, decide_false, cond_false]
        rw [if_pos (by omega), wi_id _ (by omega) (by omega), wi_id _ (by omega) (by omega)]
  · rw [if_neg (fun ⟨a, b, c, d, e, f, _⟩ => h ⟨a, b, c, d, e, f⟩)]
    have e1 : (!(decide (0 ≤ a) && decide (a ≤ 1125899906842624)) || !(decide (0 ≤ num) && decide (num ≤ 1125899906842624)) || !(decide (1 ≤ den) && decide (den ≤ 1125899906842624))) = true := by
      simp only [Bool.or_eq_true, Bool.not_eq_true', Bool.and_eq_false_iff, decide_eq_false_iff_not]
      omega
    rw [e1, cond_true]

end Go.Lift.S17
