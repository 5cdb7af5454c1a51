import Derived.Test.YthomehfmoddgjaaPD18
import Derived.Test.YthomehfmoddgjaaPL
set_option linter.all false
/- exact.Scale, reach.Route and the statement ReachRoutes. -/
set_option linter.unusedSimpArgs false
set_option linter.unusedVariables false
namespace Go.Lift.S18
open Go Go.Lift Go.Lift.Ar

theorem in_eq (n low : Int) : in_ n low = some (decide (low ≤ n) && decide (n ≤ 1125899906842624)) := by
  unfold in_ in__body
  rw [sc_and]
  rfl

theorem scale_eq (a num den : Int) : scale a num den =
    some (if 0 ≤ a ∧ a ≤ 1125899906842624 ∧ 0 ≤ num ∧ num ≤ 1125899906842624 ∧ 1 ≤ den ∧ den ≤ 1125899906842624 ∧ a * num / den ≤ 1125899906842624 then (a * num / den, a * num % den, true) else (0, 0, false)) := by
  unfold scale scale_body
  simp only [in_eq, Option.bind_some, sc_or]
  by_cases h : 0 ≤ a ∧ a ≤ 1125899906842624 ∧ 0 ≤ num ∧ num ≤ 1125899906842624 ∧ 1 ≤ den ∧ den ≤ 1125899906842624
  · obtain ⟨h1, h2, h3, h4, h5, h6⟩ := h
    have e1 : (!(decide (0 ≤ a) && decide (a ≤ 1125899906842624)) || !(decide (0 ≤ num) && decide (num ≤ 1125899906842624)) || !(decide (1 ≤ den) && decide (den ≤ 1125899906842624))) = false := by simp [h1, h2, h3, h4, h5, h6]
    rw [e1, cond_false, wu_id a (by omega) (by omega), wu_id num (by omega) (by omega), wu_id den (by omega) (by omega), mul64_eq a num h1 (by omega) h3 (by omega)]
    have hp0 : 0 ≤ a * num := Int.mul_nonneg h1 h3
    have hp1 : a * num ≤ 1125899906842624 * 1125899906842624 := Int.mul_le_mul h2 h4 h3 (by decide)
    simp only [Option.bind_some, h1, h2, h3, h4, h5, h6, true_and]
    generalize a * num = p at *
    have hq0 : 0 ≤ p / den := Int.ediv_nonneg hp0 (by omega)
    have hr0 := Int.emod_nonneg p (show den ≠ 0 by omega)
    have hr1 := Int.emod_lt_of_pos p (show 0 < den by omega)
    by_cases hb : p / 18446744073709551616 ≥ den
    · simp only [hb, decide_true, cond_true]
      have : 1125899906842625 ≤ p / den := (Int.le_ediv_iff_mul_le (by omega)).2 (by omega)
      rw [if_neg (by omega)]
    · simp only [hb, decide_false, cond_false]
      rw [div64_eq _ _ _ (by omega) (by omega) (by omega) (by omega) (by omega), show p / 18446744073709551616 * 18446744073709551616 + p % 18446744073709551616 = p by omega]
      simp only [Option.bind_some]
      by_cases hc : p / den > 1125899906842624
      · simp only [hc, decide_true, cond_true]
        rw [if_neg (by omega)]
      · simp only [hc, decide_false, cond_false]
        rw [if_pos (by omega), wi_id _ (by omega) (by omega), wi_id _ (by omega) (by omega)]
  · rw [if_neg (fun ⟨a, b, c, d, e, f, _⟩ => h ⟨a, b, c, d, e, f⟩)]
    have e1 : (!(decide (0 ≤ a) && decide (a ≤ 1125899906842624)) || !(decide (0 ≤ num) && decide (num ≤ 1125899906842624)) || !(decide (1 ≤ den) && decide (den ≤ 1125899906842624))) = true := by
      simp only [Bool.or_eq_true, Bool.not_eq_true', Bool.and_eq_false_iff, decide_eq_false_iff_not]
      omega
    rw [e1, cond_true]

theorem route_in (pl : t_api_Place.den) (num den v rem : Int) (e1 : pl.snd.snd.snd.snd.snd.snd.fst = num) (e2 : pl.snd.snd.snd.snd.snd.snd.snd.fst = den)
    (h1 : 0 ≤ v) (h2 : v ≤ 33554432) (h3 : 0 ≤ num) (h4 : num ≤ den) (h5 : 1 ≤ den) (h6 : den ≤ 33554432) (h7 : 0 ≤ rem) (h8 : rem < den) :
    route pl v rem = some ((v * num + rem) / den, (v * num + rem) % den) := by
  unfold route route_body
  rw [scale_eq]
  simp only [e1, e2]
  have hp0 : 0 ≤ v * num := Int.mul_nonneg h1 h3
  have hp1 : v * num ≤ 33554432 * 33554432 := Int.mul_le_mul h2 (by omega) h3 (by decide)
  generalize v * num = p at *
  have hq0 : 0 ≤ p / den := Int.ediv_nonneg hp0 (by omega)
  have hq1 : p / den ≤ p := Int.ediv_le_self _ hp0
  have hr0 := Int.emod_nonneg p (show den ≠ 0 by omega)
  have hr1 := Int.emod_lt_of_pos p (show 0 < den by omega)
  have e := Int.mul_ediv_add_emod p den
  rw [if_pos (by omega)]
  simp only [Option.bind_some, Bool.not_true, cond_false, sc_or]
  have e3 : (decide (rem < 0) || decide (rem ≥ den)) = false := by simp; omega
  rw [e3, cond_false, wi_id (p % den + rem) (by omega) (by omega)]
  by_cases hc : p % den + rem ≥ den
  · simp only [hc, decide_true, cond_true]
    rw [wi_id _ (by omega) (by omega), wi_id _ (by omega) (by omega)]
    obtain ⟨a, b⟩ := divMod (p := p + rem) (d := den) (q := p / den + 1) (r := p % den + rem - den) (by rw [Int.mul_add]; omega) (by omega) (by omega)
    rw [a, b]
  · simp only [hc, decide_false, cond_false]
    obtain ⟨a, b⟩ := divMod (p := p + rem) (d := den) (q := p / den) (r := p % den + rem) (by omega) (by omega) (by omega)
    rw [a, b]

/-- What a place's part is in the statement's loop. -/
theorem routes_loop (num den : Int) (vols : List Int) (h3 : 0 ≤ num) (h4 : num ≤ den) (h5 : 1 ≤ den) (h6 : den ≤ 33554432) (hl : vols.length ≤ 40)
    (pl : t_api_Place.den) (e1 : pl.snd.snd.snd.snd.snd.snd.fst = num) (e2 : pl.snd.snd.snd.snd.snd.snd.snd.fst = den) (sm : Option Bool) :
    ∀ (k : Nat) (i : Nat) (p : Int), vols.length < i + k → i ≤ vols.length → 0 ≤ p → p ≤ i * 1125899906842624 →
      routes_loop9 route sm k num den vols true (p % den) (p / den) p i pl = some (.inl true) ∨ routes_loop9 route sm k num den vols true (p % den) (p / den) p i pl = some (.inr true) := by
  intro k
  induction k with
  | zero => intro i p h h'; omega
  | succ k ih =>
    intro i p hk hi hp0 hp1
    unfold routes_loop9 routes_loop9_step
    rw [Int.toNat_natCast]
    generalize List.getD vols i 0 = v
    by_cases hil : (i : Int) < (vols.length : Int)
    · have hi0 : decide ((0 : Int) ≤ (i : Int)) = true := by simp
      simp only [hi0, hil, decide_true, Bool.and_self, cond_true, sc_or, Option.bind_some]
      by_cases hv : v < 0 ∨ v > 33554432
      · have : (decide (v < 0) || decide (v > 33554432)) = true := by simpa using hv
        simp only [this, cond_true]
        exact .inr trivial
      · have : (decide (v < 0) || decide (v > 33554432)) = false := by simp; omega
        simp only [this, cond_false]
        have hr0 := Int.emod_nonneg p (show den ≠ 0 by omega)
        have hr1 := Int.emod_lt_of_pos p (show 0 < den by omega)
        have hq0 : 0 ≤ p / den := Int.ediv_nonneg hp0 (by omega)
        have hq1 : p / den ≤ p := Int.ediv_le_self _ hp0
        have e := Int.mul_ediv_add_emod p den
        rw [route_in _ num den v (p % den) e1 e2 (by omega) (by omega) h3 h4 h5 h6 hr0 hr1]
        have hm0 : 0 ≤ v * num := Int.mul_nonneg (by omega) h3
        have hm1 : v * num ≤ 33554432 * 33554432 := Int.mul_le_mul (by omega) (by omega) h3 (by decide)
        have hmv : (v * num + p % den) / den ≤ v := by
          have : v * num ≤ v * den := Int.mul_le_mul_of_nonneg_left h4 (by omega)
          have : (v * num + p % den) / den < v + 1 := (Int.ediv_lt_iff_lt_mul (by omega)).2 (by rw [Int.add_mul]; omega)
          omega
        have key : p + v * num = den * (p / den) + (v * num + p % den) := by omega
        have k1 : (p + v * num) / den = p / den + (v * num + p % den) / den := by
          rw [key, Int.add_comm (den * _), Int.add_mul_ediv_left _ _ (by omega), Int.add_comm]
        have k2 : (p + v * num) % den = (v * num + p % den) % den := by rw [key, Int.mul_add_emod_self_left]
        have b1 : i ≤ 40 := by omega
        have hs1 : (p + v * num) / den ≤ p + v * num := Int.ediv_le_self _ (by omega)
        have hs0 : 0 ≤ (p + v * num) / den := Int.ediv_nonneg (by omega) (by omega)
        have nz : (!den == (0 : Int)) = true := by simp; omega
        simp only [Option.bind_some, nz, cond_true, sc_or]
        rw [wi_id (v * num) (by omega) (by omega), wi_id (p + v * num) (by omega) (by omega), ← k1, wi_id _ (by omega) (by omega),
          Int.tdiv_eq_ediv_of_nonneg (by omega), Int.tmod_eq_emod_of_nonneg (by omega), wi_id _ (by omega) (by omega), k2, wi_id ((i : Int) + 1) (by omega) (by omega)]
        have t0 := Int.emod_nonneg (v * num + p % den) (show den ≠ 0 by omega)
        have t1 := Int.emod_lt_of_pos (v * num + p % den) (show 0 < den by omega)
        have g : (decide ((v * num + p % den) % den < 0) || decide ((v * num + p % den) % den ≥ den) || ((p + v * num) / den != (p + v * num) / den) || ((v * num + p % den) % den != (v * num + p % den) % den) || decide ((v * num + p % den) / den > v)) = false := by
          simp only [bne_self_eq_false, Bool.or_false, Bool.or_eq_false_iff, decide_eq_false_iff_not]
          omega
        simp only [g, cond_false]
        rw [← k2]
        exact ih (i + 1) (p + v * num) (by omega) (by omega) (by omega) (by omega)
    · simp only [hil, decide_false, cond_false]
      exact .inl trivial

theorem small_true : small = some true := by kernel_rfl

theorem routes_true (num den : Int) (vols : List Int) : routes num den vols = some true := by
  unfold routes routes_body
  simp only [small_true, Option.bind_some, sc_or]
  by_cases h : den < 1 ∨ den > 33554432 ∨ num < 0 ∨ num > den ∨ (vols.length : Int) > 40
  · have : (decide (den < 1) || decide (den > 33554432) || decide (num < 0) || decide (num > den) || decide ((vols.length : Int) > 40)) = true := by simp only [Bool.or_eq_true, decide_eq_true_eq]; omega
    rw [this]; rfl
  · have : (decide (den < 1) || decide (den > 33554432) || decide (num < 0) || decide (num > den) || decide ((vols.length : Int) > 40)) = false := by simp only [Bool.or_eq_false_iff, decide_eq_false_iff_not]; omega
    rw [this, cond_false]
    have := routes_loop num den vols (by omega) (by omega) (by omega) (by omega) (by omega)
      (Go.Lift.nilOf UInt8, Int.ofNat ((0 : Nat)), Int.ofNat ((0 : Nat)), Int.ofNat ((0 : Nat)), Go.Lift.nilOf (Go.Lift.Ty.den Go.Lift.S18.t_api_Point), Go.Lift.nilOf (Int), num, den, Int.ofNat ((0 : Nat)), Int.ofNat ((0 : Nat)), Int.ofNat ((0 : Nat)), Go.Lift.nilOf (Go.Lift.Ty.den Go.Lift.S18.t_api_Cell), PUnit.unit) rfl rfl (some true) FUEL 0 0 (by have : FUEL = 18446744073709551616 := rfl; omega) (by omega) (by omega) (by omega)
    rw [Int.zero_emod, Int.zero_ediv] at this
    rcases this with h | h <;> (have h' := h; simp only [Int.natCast_zero] at h'; rw [h']; rfl)
end Go.Lift.S18
