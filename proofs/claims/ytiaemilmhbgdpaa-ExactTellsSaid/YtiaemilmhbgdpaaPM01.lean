import Derived.Test.YtiaemilmhbgdpaaPR01
set_option linter.all false
/- The statement ExactLimits. -/
set_option linter.unusedSimpArgs false
set_option linter.unusedVariables false
namespace Go.Lift.S01
open Go Go.Lift Go.Lift.Ar

theorem sub_eq (a b : Int) (ha : InR a) (hb : InR b) : sub a b = some (sat (a - b)) := by
  unfold sub sub_body end_ end__body
  rw [wi_mod]
  unfold InR at ha hb
  by_cases h1 : a < 0 <;> by_cases h2 : b < 0 <;> by_cases h3 : (a - b + 9223372036854775808) % 18446744073709551616 - 9223372036854775808 < 0 <;>
    simp only [h1, h2, h3, decide_true, decide_false, beq_self_eq_true, Bool.true_beq, Bool.false_beq, Bool.not_true, Bool.not_false, cond_true, cond_false, Option.bind_some, Option.some.injEq] <;>
    unfold sat <;> (repeat' split) <;> omega

def clampI (n low high : Int) : Int := if n < low then low else if n > high then high else n
theorem clamp_eq (n low high : Int) : clamp n low high = some (clampI n low high) := by
  unfold clamp clamp_body clampI
  by_cases h1 : n < low <;> by_cases h2 : n > high <;> simp only [h1, h2, decide_true, decide_false, cond_true, cond_false, if_true, if_false]

theorem sat_cases (n : Int) : (-9223372036854775808 ≤ n ∧ n ≤ 9223372036854775807 ∧ sat n = n) ∨ (n < -9223372036854775808 ∧ sat n = -9223372036854775808) ∨ (9223372036854775807 < n ∧ sat n = 9223372036854775807) := by
  unfold sat; (repeat' split) <;> omega

theorem small_true : small = some true := by kernel_rfl

theorem limits_true (a b c : Int) (ha : InR a) (hb : InR b) (hc : InR c) : limits a b c = some true := by
  unfold limits limits_body
  have hs := sat_in (a + b)
  rw [add_eq a b ha hb, sub_eq a b ha hb, add_eq b a hb ha, add_eq a 0 ha (by unfold InR; omega), sub_eq a 0 ha (by unfold InR; omega), sub_eq a a ha ha, add_eq c b hc hb, sub_eq c b hc hb]
  simp only [small_true, Option.bind_some, sc_or, sc_and, clamp_eq, sub_eq _ _ hs hb, sub_eq _ _ hs ha, Option.some.injEq, Bool.and_eq_true, Bool.or_eq_true, beq_iff_eq, decide_eq_true_eq, true_and]
  unfold InR at ha hb hc
  have c1 := sat_cases (a + b)
  have c2 := sat_cases (a - b)
  have e0 : sat (b + a) = sat (a + b) := by rw [Int.add_comm]
  have e1 : sat (a + 0) = a := by rw [Int.add_zero]; exact sat_of ha
  have e2 : sat (a - 0) = a := by rw [Int.sub_zero]; exact sat_of ha
  have e3 : sat (a - a) = 0 := by rw [Int.sub_self]; rfl
  have c3 := sat_cases (c + b)
  have c4 := sat_cases (c - b)
  have c5 := sat_cases (sat (a + b) - b)
  have c6 := sat_cases (sat (a + b) - a)
  rw [e0, e1, e2, e3]
  have five : a > b ∨ ((clampI c a b ≥ a ∧ clampI c a b ≤ b) ∧ clampI (clampI c a b) a b = clampI c a b) ∧ ((c < a ∨ c > b) ∨ clampI c a b = c) := by
    unfold clampI
    (repeat' split) <;> omega
  generalize sat (sat (a + b) - b) = t1 at *
  generalize sat (sat (a + b) - a) = t2 at *
  generalize sat (a + b) = s at *
  generalize sat (a - b) = d at *
  generalize sat (c + b) = u at *
  generalize sat (c - b) = v at *
  refine ⟨⟨⟨⟨?_, ?_⟩, ?_⟩, ?_⟩, ?_⟩ <;> first | exact five | omega
end Go.Lift.S01
