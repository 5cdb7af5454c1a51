import Derived.Test.YtnbknlaejebjbaaPQ17
set_option linter.all false
/- The reference's Scale is the program's. -/
set_option linter.unusedSimpArgs false
set_option linter.unusedVariables false
namespace Go.Lift.S17
open Go Go.Lift Go.Lift.Ar

theorem and_two_pow (n j : Nat) : n &&& 2 ^ j = if n / 2 ^ j % 2 = 1 then 2 ^ j else 0 := by
  apply Nat.eq_of_testBit_eq
  intro i
  rw [Nat.testBit_and, Nat.testBit_two_pow]
  by_cases h : j = i
  · subst h
    rw [Nat.testBit_eq_decide_div_mod_eq]
    split
    · rename_i h; rw [Nat.testBit_two_pow]; simp [h]
    · rename_i h; simp [h]
  · split
    · rw [Nat.testBit_two_pow]; simp [h]
    · simp [h]

theorem bit_test (n j : Nat) (hn : n < 18446744073709551616) (hj : j ≤ 62) :
    (wi (↑(BitVec.toNat (BitVec.ofInt ((64 : Nat)) (n : Int) &&& BitVec.ofInt ((64 : Nat)) ((2 ^ j : Nat) : Int))) : Int) != 0) = decide (n / 2 ^ j % 2 = 1) := by
  have e64 : (2 : Nat) ^ 64 = 18446744073709551616 := rfl
  have hp : 2 ^ j ≤ 2 ^ 62 := Nat.pow_le_pow_right (by omega) hj
  have e62 : (2 : Nat) ^ 62 = 4611686018427387904 := rfl
  have hp0 : 0 < 2 ^ j := Nat.pow_pos (by omega)
  rw [BitVec.ofInt_natCast, BitVec.ofInt_natCast, BitVec.toNat_and, BitVec.toNat_ofNat, BitVec.toNat_ofNat, e64, Nat.mod_eq_of_lt hn, Nat.mod_eq_of_lt (by omega), and_two_pow]
  by_cases h : n / 2 ^ j % 2 = 1
  · rw [decide_eq_true h, if_pos h, wi_id _ (by omega) (by omega)]
    simp only [bne_iff_ne]
    omega
  · rw [decide_eq_false h, if_neg h]
    rfl

/-- The state after some of the bits. -/
theorem scale_r_step {a den q r : Int} {N b : Int} (hd : 1 ≤ den) (hq : q = a * N / den) (hr : r = a * N % den) :
    2 * q + (2 * r + b * a) / den = a * (2 * N + b) / den ∧ (2 * r + b * a) % den = a * (2 * N + b) % den := by
  have e := Int.mul_ediv_add_emod (a * N) den
  rw [← hq, ← hr] at e
  have e2 : a * (2 * N + b) = den * (2 * q) + (2 * r + b * a) := by
    have : a * (2 * N + b) = 2 * (a * N) + b * a := by grind
    rw [this, ← e]; grind
  rw [e2]
  constructor
  · rw [Int.add_comm (den * _), Int.add_mul_ediv_left _ _ (by omega), Int.add_comm]
  · rw [Int.mul_add_emod_self_left]

theorem scale_r_end (a num den : Int) (q r : Int) (k : Nat) : scale_r_loop6 (k + 1) a num den q r 0 = some (.inl (q, r)) := by
  unfold scale_r_loop6 scale_r_loop6_step
  rfl

theorem scale_r_loop (a den : Int) (n : Nat) (ha : 0 ≤ a) (ha' : a ≤ 1125899906842624) (hn : n ≤ 1125899906842624) (hd : 1 ≤ den) (hd' : den ≤ 1125899906842624) :
    ∀ (j k : Nat) (q r : Int), j ≤ 50 → q = a * ((n / 2 ^ (j + 1) : Nat) : Int) / den → r = a * ((n / 2 ^ (j + 1) : Nat) : Int) % den → q ≤ 1125899906842624 →
      scale_r_loop6 (k + j + 2) a n den q r ((2 ^ j : Nat) : Int) = some (if a * (n : Int) / den ≤ 1125899906842624 then .inl (a * (n : Int) / den, a * (n : Int) % den) else .inr (0, 0, false)) := by
  intro j
  induction j with
  | zero =>
    intro k q r _ hq hr hqM
    have hb := bit_test n 0 (by omega) (by omega)
    have hh : n / 2 ^ 0 % 2 = n % 2 := by simp
    rw [hh] at hb
    have hN : (n : Int) = 2 * ((n / 2 ^ (0 + 1) : Nat) : Int) + ((n % 2 : Nat) : Int) := by simp; omega
    have st := scale_r_step (b := ((n % 2 : Nat) : Int)) hd hq hr
    rw [← hN] at st
    have hq0 : 0 ≤ q := by rw [hq]; exact Int.ediv_nonneg (Int.mul_nonneg ha (Int.natCast_nonneg _)) (by omega)
    have hr0 : 0 ≤ r := by rw [hr]; exact Int.emod_nonneg _ (by omega)
    have hr1 : r < den := by rw [hr]; exact Int.emod_lt_of_pos _ (by omega)
    have hz : (!den == (0 : Int)) = true := by simp; omega
    have hpos : decide (((2 ^ 0 : Nat) : Int) > 0) = true := rfl
    have hbit : wi (Int.tdiv ((2 ^ 0 : Nat) : Int) 2) = 0 := by
      rw [show Int.tdiv ((2 ^ 0 : Nat) : Int) 2 = 0 from rfl]; exact wi_id 0 (by omega) (by omega)
    rw [show k + 0 + 2 = (k + 1) + 1 by omega]
    rw [show scale_r_loop6 (k + 1 + 1) = scale_r_loop6_step (scale_r_loop6 (k + 1)) from rfl]
    unfold scale_r_loop6_step
    rw [hpos, hz, hbit, hb]
    generalize hx : a * (n : Int) / den = X at *
    rcases Nat.mod_two_eq_zero_or_one n with h0 | h0
    · rw [h0] at st ⊢
      simp only [Int.natCast_zero, Int.zero_mul, Int.add_zero] at st
      have hs0 : 0 ≤ 2 * r / den := Int.ediv_nonneg (by omega) (by omega)
      have hs1 : 2 * r / den ≤ 2 * r := Int.ediv_le_self _ (by omega)
      rw [show decide ((0 : Nat) = 1) = false from rfl]
      simp only [cond_false, cond_true]
      rw [wi_id (2 * r) (by omega) (by omega), wi_id (2 * q) (by omega) (by omega), Int.tdiv_eq_ediv_of_nonneg (by omega), wi_id (2 * r / den) (by omega) (by omega), wi_id (2 * q + _) (by omega) (by omega), Int.tmod_eq_emod_of_nonneg (by omega), st.1, st.2]
      by_cases hc : X > 1125899906842624
      · rw [decide_eq_true hc, cond_true, if_neg (by omega)]
      · rw [decide_eq_false hc, cond_false, if_pos (by omega), scale_r_end]
    · rw [h0] at st ⊢
      simp only [Int.natCast_one, Int.one_mul] at st
      have hs0 : 0 ≤ (2 * r + a) / den := Int.ediv_nonneg (by omega) (by omega)
      have hs1 : (2 * r + a) / den ≤ 2 * r + a := Int.ediv_le_self _ (by omega)
      rw [show decide ((1 : Nat) = 1) = true from rfl]
      simp only [cond_false, cond_true]
      rw [wi_id (2 * r) (by omega) (by omega), wi_id (2 * r + a) (by omega) (by omega), wi_id (2 * q) (by omega) (by omega), Int.tdiv_eq_ediv_of_nonneg (by omega), wi_id ((2 * r + a) / den) (by omega) (by omega), wi_id (2 * q + _) (by omega) (by omega), Int.tmod_eq_emod_of_nonneg (by omega), st.1, st.2]
      by_cases hc : X > 1125899906842624
      · rw [decide_eq_true hc, cond_true, if_neg (by omega)]
      · rw [decide_eq_false hc, cond_false, if_pos (by omega), scale_r_end]
  | succ j ih =>
    intro k q r hj hq hr hqM
    have hb := bit_test n (j + 1) (by omega) (by omega)
    have hN : ((n / 2 ^ (j + 1) : Nat) : Int) = 2 * ((n / 2 ^ (j + 1 + 1) : Nat) : Int) + ((n / 2 ^ (j + 1) % 2 : Nat) : Int) := by
      rw [Nat.pow_succ 2 (j + 1), ← Nat.div_div_eq_div_mul]; generalize n / 2 ^ (j + 1) = m; omega
    have hle : a * ((n / 2 ^ (j + 1) : Nat) : Int) / den ≤ a * (n : Int) / den := by
      refine Int.ediv_le_ediv (by omega) (Int.mul_le_mul_of_nonneg_left ?_ ha)
      have := Nat.div_le_self n (2 ^ (j + 1)); omega
    have st := scale_r_step (b := ((n / 2 ^ (j + 1) % 2 : Nat) : Int)) hd hq hr
    rw [← hN] at st
    have hq0 : 0 ≤ q := by rw [hq]; exact Int.ediv_nonneg (Int.mul_nonneg ha (Int.natCast_nonneg _)) (by omega)
    have hr0 : 0 ≤ r := by rw [hr]; exact Int.emod_nonneg _ (by omega)
    have hr1 : r < den := by rw [hr]; exact Int.emod_lt_of_pos _ (by omega)
    have hz : (!den == (0 : Int)) = true := by simp; omega
    have hpp : 0 < 2 ^ (j + 1) := Nat.pow_pos (by omega)
    have hpos : decide (((2 ^ (j + 1) : Nat) : Int) > 0) = true := decide_eq_true (by omega)
    have h50 : 2 ^ j ≤ 2 ^ 50 := Nat.pow_le_pow_right (by omega) (by omega)
    have e50 : (2 : Nat) ^ 50 = 1125899906842624 := rfl
    have hbit : wi (Int.tdiv ((2 ^ (j + 1) : Nat) : Int) 2) = ((2 ^ j : Nat) : Int) := by
      rw [Int.tdiv_eq_ediv_of_nonneg (by omega), Nat.pow_succ, Int.natCast_mul, show ((2 : Nat) : Int) = 2 from rfl, Int.mul_ediv_cancel _ (by omega)]
      exact wi_id _ (by omega) (by omega)
    rw [show k + (j + 1) + 2 = (k + j + 2) + 1 by omega]
    rw [show scale_r_loop6 (k + j + 2 + 1) = scale_r_loop6_step (scale_r_loop6 (k + j + 2)) from rfl]
    unfold scale_r_loop6_step
    rw [hpos, hz, hbit, hb]
    have next := fun q' r' => ih k q' r' (by omega)
    generalize hx : a * ((n / 2 ^ (j + 1) : Nat) : Int) / den = X at *
    generalize hy : a * ((n / 2 ^ (j + 1) : Nat) : Int) % den = Y at *
    generalize hbb : n / 2 ^ (j + 1) % 2 = B at *
    have h01 : B = 0 ∨ B = 1 := by omega
    rcases h01 with h0 | h0
    · rw [h0] at st ⊢
      simp only [Int.natCast_zero, Int.zero_mul, Int.add_zero] at st
      have hs0 : 0 ≤ 2 * r / den := Int.ediv_nonneg (by omega) (by omega)
      have hs1 : 2 * r / den ≤ 2 * r := Int.ediv_le_self _ (by omega)
      rw [show decide ((0 : Nat) = 1) = false from rfl]
      simp only [cond_false, cond_true]
      rw [wi_id (2 * r) (by omega) (by omega), wi_id (2 * q) (by omega) (by omega), Int.tdiv_eq_ediv_of_nonneg (by omega), wi_id (2 * r / den) (by omega) (by omega), wi_id (2 * q + _) (by omega) (by omega), Int.tmod_eq_emod_of_nonneg (by omega), st.1, st.2]
      by_cases hc : X > 1125899906842624
      · rw [decide_eq_true hc, cond_true, if_neg (by omega)]
      · rw [decide_eq_false hc, cond_false]
        exact next X Y rfl rfl (by omega)
    · rw [h0] at st ⊢
      simp only [Int.natCast_one, Int.one_mul] at st
      have hs0 : 0 ≤ (2 * r + a) / den := Int.ediv_nonneg (by omega) (by omega)
      have hs1 : (2 * r + a) / den ≤ 2 * r + a := Int.ediv_le_self _ (by omega)
      rw [show decide ((1 : Nat) = 1) = true from rfl]
      simp only [cond_false, cond_true]
      rw [wi_id (2 * r) (by omega) (by omega), wi_id (2 * r + a) (by omega) (by omega), wi_id (2 * q) (by omega) (by omega), Int.tdiv_eq_ediv_of_nonneg (by omega), wi_id ((2 * r + a) / den) (by omega) (by omega), wi_id (2 * q + _) (by omega) (by omega), Int.tmod_eq_emod_of_nonneg (by omega), st.1, st.2]
      by_cases hc : X > 1125899906842624
      · rw [decide_eq_true hc, cond_true, if_neg (by omega)]
      · rw [decide_eq_false hc, cond_false]
        exact next X Y rfl rfl (by omega)

theorem scale_r_eq (a num den : Int) : scale_r a num den = scale a num den := by
  rw [scale_eq]
  unfold scale_r scale_r_body
  simp only [sc_or, Option.bind_some]
  by_cases h : 0 ≤ a ∧ a ≤ 1125899906842624 ∧ 0 ≤ num ∧ num ≤ 1125899906842624 ∧ 1 ≤ den ∧ den ≤ 1125899906842624
  · obtain ⟨h1, h2, h3, h4, h5, h6⟩ := h
    have e1 : (decide (a < 0) || decide (a > 1125899906842624) || decide (num < 0) || decide (num > 1125899906842624) || decide (den < 1) || decide (den > 1125899906842624)) = false := by
      simp only [Bool.or_eq_false_iff, decide_eq_false_iff_not]; omega
    rw [e1, cond_false]
    obtain ⟨n, rfl⟩ := Int.eq_ofNat_of_zero_le h3
    have e0 : n / 2 ^ (50 + 1) = 0 := Nat.div_eq_of_lt (by have : (2 : Nat) ^ (50 + 1) = 2251799813685248 := rfl; omega)
    have := scale_r_loop a den n h1 h2 (by omega) h5 h6 50 (FUEL - 52) 0 0 (by omega) (by rw [e0]; simp) (by rw [e0]; simp) (by omega)
    have this' : scale_r_loop6 FUEL a n den 0 0 1125899906842624 = _ := this
    rw [this']
    by_cases hc : a * (n : Int) / den ≤ 1125899906842624
    · rw [if_pos hc, if_pos ⟨h1, h2, h3, h4, h5, h6, hc⟩]; rfl
    · rw [if_neg hc, if_neg (fun hh => hc hh.2.2.2.2.2.2)]; rfl
  · have e1 : (decide (a < 0) || decide (a > 1125899906842624) || decide (num < 0) || decide (num > 1125899906842624) || decide (den < 1) || decide (den > 1125899906842624)) = true := by
      simp only [Bool.or_eq_true, decide_eq_true_eq]; omega
    rw [e1, cond_true, if_neg (fun hh => h ⟨hh.1, hh.2.1, hh.2.2.1, hh.2.2.2.1, hh.2.2.2.2.1, hh.2.2.2.2.2.1⟩)]
end Go.Lift.S17
