import Derived.Test.YtiaemilmhbgdpaaPX01
set_option linter.all false
/- The statement ExactTells: the sums, and the end. -/
set_option linter.unusedSimpArgs false
set_option linter.unusedVariables false
namespace Go.Lift.S01
open Go Go.Lift Go.Lift.Ar

theorem mask32 (z : Int) : wi (↑(BitVec.toNat (BitVec.ofInt ((64 : Nat)) z &&& BitVec.ofInt ((64 : Nat)) 4294967295)) : Int) = z % 4294967296 := by
  have e64 : ((2 ^ 64 : Nat) : Int) = 18446744073709551616 := rfl
  have e : ((4294967295 : Int) % ((2 ^ 64 : Nat) : Int)).toNat = 2 ^ 32 - 1 := by decide
  have ek : (2 : Nat) ^ 32 = 4294967296 := rfl
  rw [BitVec.toNat_and, BitVec.toNat_ofInt, BitVec.toNat_ofInt, e, e64, Nat.and_two_pow_sub_one_eq_mod, ek, wi_id _ (by omega) (by omega)]
  omega

theorem fd32' (x : Int) : Int.fdiv x (2 ^ (32 : Nat)) = x / 4294967296 := fd32 x

def hiS : List Int → Int
  | [] => 0
  | x :: l => x / 4294967296 + hiS l
def loS : List Int → Int
  | [] => 0
  | x :: l => x % 4294967296 + loS l

theorem hi_lo : ∀ l : List Int, isum l = hiS l * 4294967296 + loS l
  | [] => rfl
  | x :: l => by
    have := hi_lo l
    simp only [isum, hiS, loS]; omega

theorem hi_bound {l : List Int} (h : ∀ x, x ∈ l → InR x) : -((l.length : Int) * 2147483648) ≤ hiS l ∧ hiS l ≤ (l.length : Int) * 2147483647 ∧ 0 ≤ loS l ∧ loS l ≤ (l.length : Int) * 4294967295 := by
  induction l with
  | nil => simp [hiS, loS]
  | cons x l ih =>
    have := h x (by simp)
    have := ih (fun y hy => h y (by simp [hy]))
    unfold InR at *
    simp only [hiS, loS, List.length_cons]; omega

theorem sum_r_loop_is (l : List Int) (hr : ∀ x, x ∈ l → InR x) (hl : l.length ≤ 1000) : ∀ (k i : Nat) (a b : Int), l.length < i + k → i ≤ l.length → -((i : Int) * 2147483648) ≤ a → a ≤ (i : Int) * 2147483648 → 0 ≤ b → b ≤ (i : Int) * 4294967296 →
    sum_r_loop4 k l a b (i : Int) = some (a + hiS (l.drop i), b + loS (l.drop i)) := by
  intro k
  induction k with
  | zero => intro i a b h hi; omega
  | succ k ih =>
    intro i a b h hi0 a0 a1 b0 b1
    unfold sum_r_loop4 sum_r_loop4_step
    rw [Int.toNat_natCast]
    by_cases hi : i < l.length
    · have hx := hr _ (getD_mem l i 0 hi)
      rw [drop_cons l i 0 hi, inb _ _ hi, decide_eq_true (show (i : Int) < (l.length : Int) by omega), fd32', mask32]
      simp only [cond_true, hiS, loS]
      generalize List.getD l i 0 = x at *
      unfold InR at hx
      rw [wi_id (a + _) (by omega) (by omega), wi_id (b + _) (by omega) (by omega), wi_id ((i : Int) + 1) (by omega) (by omega)]
      have g := ih (i + 1) (a + x / 4294967296) (b + x % 4294967296) (by omega) (by omega) (by omega) (by omega) (by omega) (by omega)
      rw [show a + (x / 4294967296 + hiS (l.drop (i + 1))) = a + x / 4294967296 + hiS (l.drop (i + 1)) by omega, show b + (x % 4294967296 + loS (l.drop (i + 1))) = b + x % 4294967296 + loS (l.drop (i + 1)) by omega]
      exact g
    · rw [decide_eq_false (show ¬ (i : Int) < (l.length : Int) by omega), cond_false, List.drop_eq_nil_of_le (by omega)]
      simp only [hiS, loS, Int.add_zero]

theorem sum_r_eq (l : List Int) (hr : ∀ x, x ∈ l → InR x) (hl : l.length ≤ 1000) : sum_r l = sum l := by
  rw [sum_eq l hr (by omega)]
  unfold sum_r sum_r_body
  have g := sum_r_loop_is l hr hl FUEL 0 0 0 (fuel_gt _ (by omega)) (by omega) (by omega) (by omega) (by omega) (by omega)
  have g' : sum_r_loop4 FUEL l 0 0 0 = _ := g
  rw [List.drop_zero, Int.zero_add, Int.zero_add] at g'
  rw [g']
  have hb := hi_bound hr
  rw [hi_lo l]
  simp only [Option.bind_some, sc_or]
  rw [fd32', mask32]
  generalize hiS l = a at *
  generalize loS l = b at *
  rw [wi_id (a + b / 4294967296) (by omega) (by omega)]
  by_cases hc : -9223372036854775808 ≤ a * 4294967296 + b ∧ a * 4294967296 + b ≤ 9223372036854775807
  · have : (decide (a + b / 4294967296 < -2147483648) || decide (a + b / 4294967296 > 2147483647)) = false := by
      rw [Bool.or_eq_false_iff]; exact ⟨decide_eq_false (by omega), decide_eq_false (by omega)⟩
    rw [this, if_pos hc, cond_false]
    have e : (2 : Int) ^ (32 : Nat) = 4294967296 := rfl
    rw [e, wi_id ((a + b / 4294967296) * 4294967296) (by omega) (by omega), wi_id _ (by omega) (by omega), show (a + b / 4294967296) * 4294967296 + b % 4294967296 = a * 4294967296 + b by omega]
  · have : (decide (a + b / 4294967296 < -2147483648) || decide (a + b / 4294967296 > 2147483647)) = true := by
      simp only [Bool.or_eq_true, decide_eq_true_eq]; omega
    rw [this, if_neg hc, cond_true]

theorem sub_r_eq (a b : Int) (ha : InR a) (hb : InR b) : sub_r a b = sub a b := by
  rw [sub_eq a b ha hb]
  unfold sub_r sub_r_body sat
  unfold InR at ha hb
  by_cases h1 : b < 0
  · rw [decide_eq_true h1, cond_true, Option.bind_some, wi_id _ (by omega) (by omega)]
    by_cases h2 : a > 9223372036854775807 + b
    · rw [decide_eq_true h2, cond_true, if_neg (by omega), if_pos (by omega)]
    · rw [decide_eq_false h2, cond_false, decide_eq_false (show ¬ b > 0 by omega), cond_false, Option.bind_some, cond_false, wi_id _ (by omega) (by omega), if_neg (by omega), if_neg (by omega)]
  · rw [decide_eq_false h1, cond_false, Option.bind_some, cond_false]
    by_cases h3 : b > 0
    · rw [decide_eq_true h3, cond_true, Option.bind_some, wi_id (-9223372036854775808 + b) (by omega) (by omega)]
      by_cases h2 : a < -9223372036854775808 + b
      · rw [decide_eq_true h2, cond_true, if_pos (by omega)]
      · rw [decide_eq_false h2, cond_false, wi_id _ (by omega) (by omega), if_neg (by omega), if_neg (by omega)]
    · rw [decide_eq_false h3, cond_false, Option.bind_some, cond_false, wi_id _ (by omega) (by omega), if_neg (by omega), if_neg (by omega)]

theorem clamp_r_eq (n low high : Int) : clamp_r n low high = clamp n low high := by
  rw [clamp_eq]
  unfold clamp_r clamp_r_body clampI
  by_cases h : n < low
  · rw [decide_eq_true h, if_pos h]; rfl
  · rw [decide_eq_false h, if_neg h, cond_false]
    by_cases h2 : n > high
    · rw [decide_eq_true h2, if_pos h2]; rfl
    · rw [decide_eq_false h2, if_neg h2]; rfl

theorem share_len (total : Int) (l : List Int) (hl : l.length ≤ 9223372036854775807) : ∃ x ok, share total l = some (x, ok) ∧ x.length ≤ 9223372036854775807 := by
  by_cases hv : Valid total l
  · obtain ⟨x, h1, h2, _⟩ := share_div hv
    exact ⟨x, true, h1, by omega⟩
  · exact ⟨[], false, share_bad total l hl hv, by simp⟩

theorem tells_true (a b c : Int) (l : List Int) (ha : InR a) (hb : InR b) (hc : InR c) (hr : ∀ x, x ∈ l → InR x) (hl : l.length ≤ 9223372036854775807) : tells a b c l = some true := by
  unfold tells tells_body
  rw [small_true]
  simp only [Option.bind_some]
  by_cases h200 : (l.length : Int) > 200
  · rw [decide_eq_true h200]; rfl
  · rw [decide_eq_false h200, cond_false, scale_r_eq, share_r_eq a l hl, sum_r_eq l hr (by omega), clamp_r_eq, sub_r_eq a b ha hb, add_r_eq a b ha hb, add_eq a b ha hb, sub_eq a b ha hb, clamp_eq]
    have hsc : ∃ s, scale a b c = some s := ⟨_, scale_eq a b c⟩
    obtain ⟨s, hs⟩ := hsc
    obtain ⟨x, ok, hx, hxl⟩ := share_len a l hl
    have hsu : ∃ s, sum l = some s := ⟨_, sum_eq l hr hl⟩
    obtain ⟨t, ht⟩ := hsu
    rw [hs, hx, ht]
    simp only [Option.bind_some, bne_self_eq_false, beq_self_eq_true, Bool.not_true, cond_false, cond_true, same_is x x hxl, decide_true]
end Go.Lift.S01
