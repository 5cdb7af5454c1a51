import Derived.Test.YtiaemilmhbgdpaaPM01
set_option linter.all false
/- The statement ExactScales. -/
set_option linter.unusedSimpArgs false
set_option linter.unusedVariables false
namespace Go.Lift.S01
open Go Go.Lift Go.Lift.Ar

theorem mask26 (z : Int) (h0 : 0 ≤ z) (h1 : z < 9223372036854775808) : wi (↑(BitVec.toNat (BitVec.ofInt ((64 : Nat)) z &&& BitVec.ofInt ((64 : Nat)) 67108863)) : Int) = z % 67108864 := by
  obtain ⟨n, rfl⟩ := Int.eq_ofNat_of_zero_le h0
  have e : (67108863 : Int) = ((67108863 : Nat) : Int) := rfl
  have e64 : (2 : Nat) ^ 64 = 18446744073709551616 := rfl
  have em : (67108863 : Nat) = 2 ^ 26 - 1 := rfl
  have ek : (2 : Nat) ^ 26 = 67108864 := rfl
  rw [e, BitVec.ofInt_natCast, BitVec.ofInt_natCast, BitVec.toNat_and, BitVec.toNat_ofNat, BitVec.toNat_ofNat, e64, Nat.mod_eq_of_lt (show n < 18446744073709551616 by omega), Nat.mod_eq_of_lt (show 67108863 < 18446744073709551616 by omega), em, Nat.and_two_pow_sub_one_eq_mod, ek, wi_id _ (by omega) (by omega)]
  omega

theorem fd26 (x : Int) : Int.fdiv x (2 ^ 26) = x / 67108864 := by
  rw [Int.fdiv_eq_ediv_of_nonneg _ (by decide)]; rfl

theorem digits {P h m l h' m' l' : Int} (e1 : P = h * 4503599627370496 + m * 67108864 + l) (e2 : P = h' * 4503599627370496 + m' * 67108864 + l') :
    l % 67108864 = l' % 67108864 ∧ (m + l / 67108864) % 67108864 = (m' + l' / 67108864) % 67108864 ∧ h + (m + l / 67108864) / 67108864 = h' + (m' + l' / 67108864) / 67108864 := by
  omega

theorem halves (a b : Int) : a * b = (a / 67108864 * (b / 67108864)) * 4503599627370496 + (a / 67108864 * (b % 67108864) + a % 67108864 * (b / 67108864)) * 67108864 + a % 67108864 * (b % 67108864) := by
  have ha : a = a / 67108864 * 67108864 + a % 67108864 := by omega
  have hb : b = b / 67108864 * 67108864 + b % 67108864 := by omega
  generalize a / 67108864 = x at *
  generalize a % 67108864 = y at *
  generalize b / 67108864 = X at *
  generalize b % 67108864 = Y at *
  rw [ha, hb]
  grind

theorem bounds (a b : Int) (h0 : 0 ≤ a) (h1 : a ≤ 1125899906842624) (g0 : 0 ≤ b) (g1 : b ≤ 1125899906842624) :
    (0 ≤ a / 67108864 * (b / 67108864) ∧ a / 67108864 * (b / 67108864) ≤ 281474976710656) ∧ (0 ≤ a / 67108864 * (b % 67108864) ∧ a / 67108864 * (b % 67108864) ≤ 1125899906842624) ∧ (0 ≤ a % 67108864 * (b / 67108864) ∧ a % 67108864 * (b / 67108864) ≤ 1125899906842624) ∧ (0 ≤ a % 67108864 * (b % 67108864) ∧ a % 67108864 * (b % 67108864) ≤ 4503599627370496) := by
  have hx0 : 0 ≤ a / 67108864 := by omega
  have hx1 : a / 67108864 ≤ 16777216 := by omega
  have hy0 : 0 ≤ a % 67108864 := by omega
  have hy1 : a % 67108864 ≤ 67108864 := by omega
  have gx0 : 0 ≤ b / 67108864 := by omega
  have gx1 : b / 67108864 ≤ 16777216 := by omega
  have gy0 : 0 ≤ b % 67108864 := by omega
  have gy1 : b % 67108864 ≤ 67108864 := by omega
  refine ⟨⟨Int.mul_nonneg hx0 gx0, ?_⟩, ⟨Int.mul_nonneg hx0 gy0, ?_⟩, ⟨Int.mul_nonneg hy0 gx0, ?_⟩, ⟨Int.mul_nonneg hy0 gy0, ?_⟩⟩
  · have := Int.mul_le_mul hx1 gx1 gx0 (by decide); omega
  · have := Int.mul_le_mul hx1 gy1 gy0 (by decide); omega
  · have := Int.mul_le_mul hy1 gx1 gx0 (by decide); omega
  · have := Int.mul_le_mul hy1 gy1 gy0 (by decide); omega

theorem scales_true (a num den : Int) (ha : InR a) : scales a num den = some true := by
  unfold scales scales_body
  simp only [small_true, Option.bind_some, sc_or]
  by_cases h : 0 ≤ a ∧ a ≤ 1125899906842624 ∧ 0 ≤ num ∧ num ≤ 1125899906842624 ∧ 1 ≤ den ∧ den ≤ 1125899906842624
  · have h' := h
    obtain ⟨h1, h2, h3, h4, h5, h6⟩ := h
    have e1 : (decide (a < 0) || decide (a > 1125899906842624) || decide (num < 0) || decide (num > 1125899906842624) || decide (den < 1) || decide (den > 1125899906842624)) = false := by
      simp only [Bool.or_eq_false_iff, decide_eq_false_iff_not]; omega
    rw [e1]
    by_cases hq : a * num / den ≤ 1125899906842624
    · have hp0 : 0 ≤ a * num := Int.mul_nonneg h1 h3
      have hq0 : 0 ≤ a * num / den := Int.ediv_nonneg hp0 (by omega)
      have hr0 := Int.emod_nonneg (a * num) (show den ≠ 0 by omega)
      have hr1 := Int.emod_lt_of_pos (a * num) (show 0 < den by omega)
      have ed := Int.mul_ediv_add_emod (a * num) den
      rw [Int.mul_comm den] at ed
      have s1 : scale a num den = some (a * num / den, a * num % den, true) := by rw [scale_eq, if_pos ⟨h1, h2, h3, h4, h5, h6, hq⟩]
      have s2 : scale num a den = some (a * num / den, a * num % den, true) := by rw [scale_eq, Int.mul_comm num a, if_pos ⟨h3, h4, h1, h2, h5, h6, hq⟩]
      -- one more
      obtain ⟨a', ha'⟩ : ∃ a', a' = (if 1125899906842624 < wi (a + 1) then 1125899906842624 else wi (a + 1)) := ⟨_, rfl⟩
      have ha1 : a ≤ a' ∧ a' ≤ 1125899906842624 := by
        rw [ha', wi_id (a + 1) (by omega) (by omega)]; split <;> omega
      have s3 : ∃ w x ok, scale a' num den = some (w, x, ok) ∧ (ok = true → a * num / den ≤ w) := by
        rw [scale_eq]
        by_cases hq' : a' * num / den ≤ 1125899906842624
        · rw [if_pos ⟨by omega, ha1.2, h3, h4, h5, h6, hq'⟩]
          exact ⟨_, _, _, rfl, fun _ => Int.ediv_le_ediv (by omega) (Int.mul_le_mul_of_nonneg_right ha1.1 h3)⟩
        · rw [if_neg (fun hh => hq' hh.2.2.2.2.2.2)]
          exact ⟨_, _, _, rfl, fun e => by cases e⟩
      obtain ⟨w, x, ok, s3, hw⟩ := s3
      rw [← ha', s1, s2, s3]
      simp only [Option.bind_some, cond_false, Bool.not_true]
      generalize hQ : a * num / den = Q at *
      generalize hR : a * num % den = R' at *
      have hl := halves a num
      have hl2 := halves Q den
      obtain ⟨b1, b2, b3, b4⟩ := bounds a num h1 h2 h3 h4
      obtain ⟨c1, c2, c3, c4⟩ := bounds Q den hq0 hq (by omega) h6
      have dg := digits (P := a * num) hl (h' := Q / 67108864 * (den / 67108864)) (m' := Q / 67108864 * (den % 67108864) + Q % 67108864 * (den / 67108864)) (l' := Q % 67108864 * (den % 67108864) + R') (by omega)
      simp only [fd26]
      rw [mask26 a h1 (by omega), mask26 num h3 (by omega), mask26 Q hq0 (by omega), mask26 den (by omega) (by omega)]
      generalize a / 67108864 * (num / 67108864) = H at *
      generalize a / 67108864 * (num % 67108864) = M1 at *
      generalize a % 67108864 * (num / 67108864) = M2 at *
      generalize a % 67108864 * (num % 67108864) = L at *
      generalize Q / 67108864 * (den / 67108864) = H' at *
      generalize Q / 67108864 * (den % 67108864) = M1' at *
      generalize Q % 67108864 * (den / 67108864) = M2' at *
      generalize Q % 67108864 * (den % 67108864) = L' at *
      rw [wi_id H (by omega) (by omega), wi_id M1 (by omega) (by omega), wi_id M2 (by omega) (by omega), wi_id L (by omega) (by omega), wi_id H' (by omega) (by omega), wi_id M1' (by omega) (by omega), wi_id M2' (by omega) (by omega), wi_id L' (by omega) (by omega)]
      rw [wi_id (L' + R') (by omega) (by omega), wi_id (M1 + M2) (by omega) (by omega), wi_id (M1' + M2') (by omega) (by omega), wi_id (M1 + M2 + L / 67108864) (by omega) (by omega), wi_id (M1' + M2' + (L' + R') / 67108864) (by omega) (by omega)]
      rw [wi_id (H + (M1 + M2 + L / 67108864) / 67108864) (by omega) (by omega), wi_id (H' + (M1' + M2' + (L' + R') / 67108864) / 67108864) (by omega) (by omega), mask26 L (by omega) (by omega), mask26 (L' + R') (by omega) (by omega), mask26 (M1 + M2 + L / 67108864) (by omega) (by omega), mask26 (M1' + M2' + (L' + R') / 67108864) (by omega) (by omega)]
      rw [dg.1, dg.2.1, dg.2.2]
      simp only [beq_self_eq_true, cond_true, Option.bind_some, sc_and, sc_or, Bool.true_and, Bool.and_true, Option.some.injEq, Bool.and_eq_true, Bool.or_eq_true, decide_eq_true_eq, Bool.not_eq_true']
      refine ⟨⟨⟨⟨by omega, hr1⟩, by omega⟩, hq⟩, ?_⟩
      cases ok
      · exact .inl rfl
      · exact .inr (hw rfl)
    · have s1 : scale a num den = some (0, 0, false) := by rw [scale_eq, if_neg (fun hh => hq hh.2.2.2.2.2.2)]
      rw [s1]
      rfl
  · have e1 : (decide (a < 0) || decide (a > 1125899906842624) || decide (num < 0) || decide (num > 1125899906842624) || decide (den < 1) || decide (den > 1125899906842624)) = true := by
      simp only [Bool.or_eq_true, decide_eq_true_eq]; omega
    have s1 : scale a num den = some (0, 0, false) := by rw [scale_eq, if_neg (fun hh => h ⟨hh.1, hh.2.1, hh.2.2.1, hh.2.2.2.1, hh.2.2.2.2.1, hh.2.2.2.2.2.1⟩)]
    rw [s1]
    simp only [Option.bind_some, e1, cond_true]
    rfl
end Go.Lift.S01
