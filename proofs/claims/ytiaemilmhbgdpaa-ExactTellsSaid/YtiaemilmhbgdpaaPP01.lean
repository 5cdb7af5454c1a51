import Derived.Test.YtiaemilmhbgdpaaPS01
set_option linter.all false
/- exact.Add and exact.Sum. -/
set_option linter.unusedSimpArgs false
set_option linter.unusedVariables false
namespace Go.Lift.S01
open Go Go.Lift Go.Lift.Ar

theorem add_eq (a b : Int) (ha : InR a) (hb : InR b) : add a b = some (sat (a + b)) := by
  unfold add add_body end_ end__body
  rw [wi_mod]
  unfold InR at ha hb
  by_cases h1 : a < 0 <;> by_cases h2 : b < 0 <;> by_cases h3 : (a + b + 9223372036854775808) % 18446744073709551616 - 9223372036854775808 < 0 <;>
    simp only [h1, h2, h3, decide_true, decide_false, beq_self_eq_true, Bool.true_beq, Bool.false_beq, Bool.not_true, Bool.not_false, cond_true, cond_false, Option.bind_some, Option.some.injEq] <;>
    unfold sat <;> (repeat' split) <;> omega

theorem add_r_eq (a b : Int) (ha : InR a) (hb : InR b) : add_r a b = some (sat (a + b)) := by
  unfold add_r add_r_body
  unfold InR at ha hb
  simp only [sc_and, Option.bind_some]
  by_cases h1 : b > 0
  · rw [wi_id (9223372036854775807 - b) (by omega) (by omega)]
    by_cases h2 : a > 9223372036854775807 - b
    · simp only [h1, h2, decide_true, Bool.and_self, cond_true, Option.some.injEq]
      unfold sat; (repeat' split) <;> omega
    · have h3 : ¬ b < 0 := by omega
      simp only [h1, h2, h3, decide_true, decide_false, Bool.and_false, Bool.false_and, cond_false, Option.some.injEq]
      rw [wi_id _ (by omega) (by omega), sat_of (by unfold InR; omega)]
  · by_cases h3 : b < 0
    · rw [wi_id (-9223372036854775808 - b) (by omega) (by omega)]
      by_cases h2 : a < -9223372036854775808 - b
      · simp only [h1, h2, h3, decide_true, decide_false, Bool.and_self, Bool.false_and, cond_true, cond_false, Option.some.injEq]
        unfold sat; (repeat' split) <;> omega
      · simp only [h1, h2, h3, decide_true, decide_false, Bool.and_false, Bool.false_and, cond_false, Option.some.injEq]
        rw [wi_id _ (by omega) (by omega), sat_of (by unfold InR; omega)]
    · simp only [h1, h3, decide_true, decide_false, Bool.and_false, Bool.false_and, cond_false, Option.some.injEq]
      rw [wi_id _ (by omega) (by omega), sat_of (by unfold InR; omega)]

theorem fuel_gt (n : Nat) (h : n ≤ 9223372036854775807) : n < 0 + FUEL := by
  have : FUEL = 18446744073709551616 := rfl
  omega

theorem sum_loop (l : List Int) (hr : ∀ x, x ∈ l → InR x) (hl : l.length ≤ 9223372036854775807) :
    ∀ (k i : Nat) (S : Int), l.length < i + k → i ≤ l.length →
      sum_loop3 add64 k (S / 18446744073709551616 % 18446744073709551616) (S % 18446744073709551616) l (l.length : Int) i = some ((S + isum (l.drop i)) / 18446744073709551616 % 18446744073709551616, (S + isum (l.drop i)) % 18446744073709551616) := by
  intro k
  induction k with
  | zero => intro i n h hi; omega
  | succ k ih =>
    intro i S h hi0
    unfold sum_loop3 sum_loop3_step
    rw [Int.toNat_natCast]
    by_cases hi : i < l.length
    · have hm := hr _ (getD_mem l i 0 hi)
      rw [drop_cons l i 0 hi, inb _ _ hi]
      generalize l.getD i 0 = x at *
      have hi' : (i : Int) < (l.length : Int) := by omega
      unfold InR at hm
      have ha : add64 (S % 18446744073709551616) (wu x) 0 = some ((S % 18446744073709551616 + wu x + 0) % 18446744073709551616, (S % 18446744073709551616 + wu x + 0) / 18446744073709551616) := by
        unfold add64
        rw [wu_mod]
        have e : (decide (0 ≤ S % 18446744073709551616) && decide (0 ≤ x % 18446744073709551616) && (decide ((0 : Int) ≤ 0) && decide ((0 : Int) ≤ 1))) = true := by
          simp only [Bool.and_eq_true, decide_eq_true_eq]; omega
        rw [e]; rfl
      simp only [hi', decide_true, cond_true, ha, Option.bind_some, isum]
      rw [wi_id ((i : Int) + 1) (by omega) (by omega)]
      have fd : Int.fdiv x (2 ^ 63) = x / 9223372036854775808 := by rw [Int.fdiv_eq_ediv_of_nonneg _ (by decide)]; rfl
      have e1 : wu (S / 18446744073709551616 % 18446744073709551616 + wu (wu (Int.fdiv x (2 ^ 63)) + (S % 18446744073709551616 + wu x + 0) / 18446744073709551616)) = (S + x) / 18446744073709551616 % 18446744073709551616 := by
        rw [fd]
        simp only [wu_mod, Int.add_zero]
        have key : (S + x) / 18446744073709551616 = S / 18446744073709551616 + x / 9223372036854775808 + (S % 18446744073709551616 + x % 18446744073709551616) / 18446744073709551616 := by
          rcases Int.lt_or_le x 0 with hx | hx
          · rw [show x / 9223372036854775808 = -1 by omega, show x % 18446744073709551616 = x + 18446744073709551616 by omega]; omega
          · rw [show x / 9223372036854775808 = 0 by omega, show x % 18446744073709551616 = x by omega]; omega
        rw [key]
        generalize S / 18446744073709551616 = A
        generalize x / 9223372036854775808 = B
        generalize (S % 18446744073709551616 + x % 18446744073709551616) / 18446744073709551616 = C
        omega
      have e2 : (S % 18446744073709551616 + wu x + 0) % 18446744073709551616 = (S + x) % 18446744073709551616 := by
        simp only [wu_mod]
        omega
      rw [e1, e2, ← Int.add_assoc]
      exact ih (i + 1) (S + x) (by omega) (by omega)
    · have hi' : ¬ (i : Int) < (l.length : Int) := by omega
      rw [List.drop_eq_nil_of_le (by omega)]
      simp only [hi', decide_false, cond_false, isum, Int.add_zero]

theorem sum_eq (l : List Int) (hr : ∀ x, x ∈ l → InR x) (hl : l.length ≤ 9223372036854775807) :
    sum l = some (if -9223372036854775808 ≤ isum l ∧ isum l ≤ 9223372036854775807 then (isum l, true) else (0, false)) := by
  unfold sum sum_body
  have h := sum_loop l hr hl FUEL 0 0 (fuel_gt _ hl) (by omega)
  rw [Int.zero_ediv, Int.zero_emod, List.drop_zero, Int.zero_add] at h
  have h' : sum_loop3 add64 FUEL 0 0 l (l.length : Int) 0 = some (isum l / 18446744073709551616 % 18446744073709551616, isum l % 18446744073709551616) := h
  rw [h']
  simp only [Option.bind_some]
  have fd : Int.fdiv (wi (isum l % 18446744073709551616)) (2 ^ 63) = wi (isum l % 18446744073709551616) / 9223372036854775808 := by rw [Int.fdiv_eq_ediv_of_nonneg _ (by decide)]; rfl
  have hb := isum_bound hr
  rw [fd]
  generalize isum l = S at *
  rw [wu_mod, wi_mod]
  by_cases hc : -9223372036854775808 ≤ S ∧ S ≤ 9223372036854775807
  · rw [if_pos hc]
    have e : (S / 18446744073709551616 % 18446744073709551616 == (((S % 18446744073709551616 + 9223372036854775808) % 18446744073709551616 - 9223372036854775808) / 9223372036854775808) % 18446744073709551616) = true := by
      rw [beq_iff_eq]; omega
    rw [e, cond_true]
    have : (S % 18446744073709551616 + 9223372036854775808) % 18446744073709551616 - 9223372036854775808 = S := by omega
    rw [this]
  · rw [if_neg hc]
    have e : (S / 18446744073709551616 % 18446744073709551616 == (((S % 18446744073709551616 + 9223372036854775808) % 18446744073709551616 - 9223372036854775808) / 9223372036854775808) % 18446744073709551616) = false := by
      rw [beq_eq_false_iff_ne]
      have hA : S = 18446744073709551616 * (S / 18446744073709551616) + S % 18446744073709551616 := by omega
      have hr0 : 0 ≤ S % 18446744073709551616 ∧ S % 18446744073709551616 < 18446744073709551616 := by omega
      have hA1 : -4611686018427387904 ≤ S / 18446744073709551616 ∧ S / 18446744073709551616 ≤ 4611686018427387904 := by omega
      generalize S / 18446744073709551616 = A at *
      generalize S % 18446744073709551616 = r at *
      rcases Int.lt_or_le r 9223372036854775808 with h | h
      · rw [show (r + 9223372036854775808) % 18446744073709551616 - 9223372036854775808 = r by omega, show r / 9223372036854775808 = 0 by omega]
        omega
      · rw [show (r + 9223372036854775808) % 18446744073709551616 - 9223372036854775808 = r - 18446744073709551616 by omega, show (r - 18446744073709551616) / 9223372036854775808 = -1 by omega]
        omega
    rw [e, cond_false]

end Go.Lift.S01
