import Derived.Test.YtnbknlaejebjbaaPS17
set_option linter.all false
/- exact.Add, exact.Sum and the package pool. -/
set_option linter.unusedSimpArgs false
set_option linter.unusedVariables false
namespace Go.Lift.S17
open Go Go.Lift Go.Lift.Ar

theorem add_eq (a b : Int) (ha : InR a) (hb : InR b) : add a b = some (sat (a + b)) := by
  unfold add add_body end_ end__body
  rw [wi_mod]
  unfold InR at ha hb
  by_cases h1 : a < 0 <;> by_cases h2 : b < 0 <;> by_cases h3 : (a + b + 9223372036854775808) % 18446744073709551616 - 9223372036854775808 < 0 <;>
    simp only [h1, h2, h3, decide_true, decide_false, beq_self_eq_true, Bool.true_beq, Bool.false_beq, Bool.not_true, Bool.not_false, cond_true, cond_false, Option.bind_some, Option.some.injEq] <;>
    unfold sat <;> (repeat' split) <;> omega

theorem add_r_eq (a b : Int) (ha : InR a) (hb : InR b) : add_r a b = some (sat (a + b)) := by
  unfold add_r add_r_body
  unfold InR at ha hb
  simp only [sc_and, Option.bind_some]
  by_cases h1 : b > 0
  · rw [wi_id (9223372036854775807 - b) (by omega) (by omega)]
    by_cases h2 : a > 9223372036854775807 - b
    · simp only [h1, h2, decide_true, Bool.and_self, cond_true, Option.some.injEq]
      unfold sat; (repeat' split) <;> omega
    · have h3 : ¬ b < 0 := by omega
      simp only [h1, h2, h3, decide_true, decide_false, Bool.and_false, Bool.false_and, cond_false, Option.some.injEq]
      rw [wi_id _ (by omega) (by omega), sat_of (by unfold InR; omega)]
  · by_cases h3 : b < 0
    · rw [wi_id (-9223372036854775808 - b) (by omega) (by omega)]
      by_cases h2 : a < -9223372036854775808 - b
      · simp only [h1, h2, h3, decide_true, decide_false, Bool.and_self, Bool.false_and, cond_true, cond_false, Option.some.injEq]
        unfold sat; (repeat' split) <;> omega
      · simp only [h1, h2, h3, decide_true, decide_false, Bool.and_false, Bool.false_and, cond_false, Option.some.injEq]
        rw [wi_id _ (by omega) (by omega), sat_of (by unfold InR; omega)]
    · simp only [h1, h3, decide_true, decide_false, Bool.and_false, Bool.false_and, cond_false, Option.some.injEq]
      rw [wi_id _ (by omega) (by omega), sat_of (by unfold InR; omega)]

theorem total_loop (l : List Int) (hr : ∀ x, x ∈ l → InR x) (hl : l.length ≤ 9223372036854775807) :
    ∀ (k i : Nat) (n : Int), l.length < i + k → i ≤ l.length → InR n →
      total_loop3 add k n l (l.length : Int) i = some ((l.drop i).foldl (fun a x => sat (a + x)) n) := by
  intro k
  induction k with
  | zero => intro i n h hi hn; omega
  | succ k ih =>
    intro i n h hi0 hn
    unfold total_loop3 total_loop3_step
    rw [Int.toNat_natCast]
    by_cases hi : i < l.length
    · have hm := hr _ (getD_mem l i 0 hi)
      rw [drop_cons l i 0 hi, inb _ _ hi]
      generalize l.getD i 0 = x at *
      have hi' : (i : Int) < (l.length : Int) := by omega
      simp only [hi', decide_true, cond_true, add_eq n x hn hm, Option.bind_some, List.foldl_cons]
      rw [wi_id ((i : Int) + 1) (by omega) (by omega)]
      exact ih (i + 1) _ (by omega) (by omega) (sat_in _)
    · have hi' : ¬ (i : Int) < (l.length : Int) := by omega
      rw [List.drop_eq_nil_of_le (by omega)]
      simp only [hi', decide_false, cond_false, List.foldl_nil]

theorem total_r_loop (l : List Int) (hr : ∀ x, x ∈ l → InR x) (hl : l.length ≤ 9223372036854775807) :
    ∀ (k i : Nat) (n : Int), l.length < i + k → i ≤ l.length → InR n →
      total_r_loop3 add_r k l n i = some ((l.drop i).foldl (fun a x => sat (a + x)) n) := by
  intro k
  induction k with
  | zero => intro i n h hi hn; omega
  | succ k ih =>
    intro i n h hi0 hn
    unfold total_r_loop3 total_r_loop3_step
    rw [Int.toNat_natCast]
    by_cases hi : i < l.length
    · have hm := hr _ (getD_mem l i 0 hi)
      rw [drop_cons l i 0 hi, inb _ _ hi]
      generalize l.getD i 0 = x at *
      have hi' : (i : Int) < (l.length : Int) := by omega
      simp only [hi', decide_true, cond_true, add_r_eq n x hn hm, Option.bind_some, List.foldl_cons]
      rw [wi_id ((i : Int) + 1) (by omega) (by omega)]
      exact ih (i + 1) _ (by omega) (by omega) (sat_in _)
    · have hi' : ¬ (i : Int) < (l.length : Int) := by omega
      rw [List.drop_eq_nil_of_le (by omega)]
      simp only [hi', decide_false, cond_false, List.foldl_nil]

theorem fuel_gt (n : Nat) (h : n ≤ 9223372036854775807) : n < 0 + FUEL := by
  have : FUEL = 18446744073709551616 := rfl
  omega

/-- What Total returns. -/
def tot (l : List Int) : Int := l.foldl (fun a x => sat (a + x)) 0

theorem total_eq (l : List Int) (hr : ∀ x, x ∈ l → InR x) (hl : l.length ≤ 9223372036854775807) : total l = some (tot l) := by
  unfold total total_body
  rw [bind_eta]
  exact total_loop l hr hl FUEL 0 0 (fuel_gt _ hl) (by omega) (by unfold InR; omega)

theorem total_r_eq (l : List Int) (hr : ∀ x, x ∈ l → InR x) (hl : l.length ≤ 9223372036854775807) : total_r l = some (tot l) := by
  unfold total_r total_r_body
  rw [bind_eta]
  exact total_r_loop l hr hl FUEL 0 0 (fuel_gt _ hl) (by omega) (by unfold InR; omega)

theorem foldl_sat (l : List Int) (h0 : ∀ x, x ∈ l → 0 ≤ x) : ∀ n, 0 ≤ n → n + isum l ≤ 9223372036854775807 → l.foldl (fun a x => sat (a + x)) n = n + isum l := by
  induction l with
  | nil => intro n _ _; simp [isum]
  | cons x l ih =>
    intro n hn hs
    have hx := h0 x (by simp)
    have hl := isum_nonneg (l := l) (fun y hy => h0 y (by simp [hy]))
    simp only [isum] at hs ⊢
    rw [List.foldl_cons, sat_of (by unfold InR; omega), ih (fun y hy => h0 y (by simp [hy])) _ (by omega) (by omega)]
    omega

theorem tot_nonneg (l : List Int) (h0 : ∀ x, x ∈ l → 0 ≤ x) (hs : isum l ≤ 9223372036854775807) : tot l = isum l := by
  unfold tot
  rw [foldl_sat l h0 0 (by omega) (by omega)]
  omega

theorem sum_loop (l : List Int) (hr : ∀ x, x ∈ l → InR x) (hl : l.length ≤ 9223372036854775807) :
    ∀ (k i : Nat) (S : Int), l.length < i + k → i ≤ l.length →
      sum_loop3 add64 k (S / 18446744073709551616 % 18446744073709551616) (S % 18446744073709551616) l (l.length : Int) i = some ((S + isum (l.drop i)) / 18446744073709551616 % 18446744073709551616, (S + isum (l.drop i)) % 18446744073709551616) := by
  intro k
  induction k with
  | zero => intro i n h hi; omega
  | succ k ih =>
    intro i S h hi0
    unfold sum_loop3 sum_loop3_step
    rw [Int.toNat_natCast]
    by_cases hi : i < l.length
    · have hm := hr _ (getD_mem l i 0 hi)
      rw [drop_cons l i 0 hi, inb _ _ hi]
      generalize l.getD i 0 = x at *
      have hi' : (i : Int) < (l.length : Int) := by omega
      unfold InR at hm
      have ha : add64 (S % 18446744073709551616) (wu x) 0 = some ((S % 18446744073709551616 + wu x + 0) % 18446744073709551616, (S % 18446744073709551616 + wu x + 0) / 18446744073709551616) := by
        unfold add64
        rw [wu_mod]
        have e : (decide (0 ≤ S % 18446744073709551616) && decide (0 ≤ x % 18446744073709551616) && (decide ((0 : Int) ≤ 0) && decide ((0 : Int) ≤ 1))) = true := by
          simp only [Bool.and_eq_true, decide_eq_true_eq]; omega
        rw [e]; rfl
      simp only [hi', decide_true, cond_true, ha, Option.bind_some, isum]
      rw [wi_id ((i : Int) + 1) (by omega) (by omega)]
      have fd : Int.fdiv x (2 ^ 63) = x / 9223372036854775808 := by rw [Int.fdiv_eq_ediv_of_nonneg _ (by decide)]; rfl
      have e1 : wu (S / 18446744073709551616 % 18446744073709551616 + wu (wu (Int.fdiv x (2 ^ 63)) + (S % 18446744073709551616 + wu x + 0) / 18446744073709551616)) = (S + x) / 18446744073709551616 % 18446744073709551616 := by
        rw [fd]
        simp only [wu_mod, Int.add_zero]
        have key : (S + x) / 18446744073709551616 = S / 18446744073709551616 + x / 9223372036854775808 + (S % 18446744073709551616 + x % 18446744073709551616) / 18446744073709551616 := by
          rcases Int.lt_or_le x 0 with hx | hx
          · rw [show x / 9223372036854775808 = -1 by omega, show x % 18446744073709551616 = x + 18446744073709551616 by omega]; omega
          · rw [show x / 9223372036854775808 = 0 by omega, show x % 18446744073709551616 = x by omega]; omega
        rw [key]
        generalize S / 18446744073709551616 = A
        generalize x / 9223372036854775808 = B
        generalize (S % 18446744073709551616 + x % 18446744073709551616) / 18446744073709551616 = C
        omega
      have e2 : (S % 18446744073709551616 + wu x + 0) % 18446744073709551616 = (S + x) % 18446744073709551616 := by
        simp only [wu_mod]
        omega
      rw [e1, e2, ← Int.add_assoc]
      exact ih (i + 1) (S + x) (by omega) (by omega)
    · have hi' : ¬ (i : Int) < (l.length : Int) := by omega
      rw [List.drop_eq_nil_of_le (by omega)]
      simp only [hi', decide_false, cond_false, isum, Int.add_zero]

theorem sum_eq (l : List Int) (hr : ∀ x, x ∈ l → InR x) (hl : l.length ≤ 9223372036854775807) :
    sum l = some (if -9223372036854775808 ≤ isum l ∧ isum l ≤ 9223372036854775807 then (isum l, true) else (0, false)) := by
  unfold sum sum_body
  have h := sum_loop l hr hl FUEL 0 0 (fuel_gt _ hl) (by omega)
  rw [Int.zero_ediv, Int.zero_emod, List.drop_zero, Int.zero_add] at h
  have h' : sum_loop3 add64 FUEL 0 0 l (l.length : Int) 0 = some (isum l / 18446744073709551616 % 18446744073709551616, isum l % 18446744073709551616) := h
  rw [h']
  simp only [Option.bind_some]
  have fd : Int.fdiv (wi (isum l % 18446744073709551616)) (2 ^ 63) = wi (isum l % 18446744073709551616) / 9223372036854775808 := by rw [Int.fdiv_eq_ediv_of_nonneg _ (by decide)]; rfl
  have hb := isum_bound hr
  rw [fd]
  generalize isum l = S at *
  rw [wu_mod, wi_mod]
  by_cases hc : -9223372036854775808 ≤ S ∧ S ≤ 9223372036854775807
  · rw [if_pos hc]
    have e : (S / 18446744073709551616 % 18446744073709551616 == (((S % 18446744073709551616 + 9223372036854775808) % 18446744073709551616 - 9223372036854775808) / 9223372036854775808) % 18446744073709551616) = true := by
      rw [beq_iff_eq]; omega
    rw [e, cond_true]
    have : (S % 18446744073709551616 + 9223372036854775808) % 18446744073709551616 - 9223372036854775808 = S := by omega
    rw [this]
  · rw [if_neg hc]
    have e : (S / 18446744073709551616 % 18446744073709551616 == (((S % 18446744073709551616 + 9223372036854775808) % 18446744073709551616 - 9223372036854775808) / 9223372036854775808) % 18446744073709551616) = false := by
      rw [beq_eq_false_iff_ne]
      have hA : S = 18446744073709551616 * (S / 18446744073709551616) + S % 18446744073709551616 := by omega
      have hr0 : 0 ≤ S % 18446744073709551616 ∧ S % 18446744073709551616 < 18446744073709551616 := by omega
      have hA1 : -4611686018427387904 ≤ S / 18446744073709551616 ∧ S / 18446744073709551616 ≤ 4611686018427387904 := by omega
      generalize S / 18446744073709551616 = A at *
      generalize S % 18446744073709551616 = r at *
      rcases Int.lt_or_le r 9223372036854775808 with h | h
      · rw [show (r + 9223372036854775808) % 18446744073709551616 - 9223372036854775808 = r by omega, show r / 9223372036854775808 = 0 by omega]
        omega
      · rw [show (r + 9223372036854775808) % 18446744073709551616 - 9223372036854775808 = r - 18446744073709551616 by omega, show (r - 18446744073709551616) / 9223372036854775808 = -1 by omega]
        omega
    rw [e, cond_false]

/-- A right pool, for its length. -/
def Fit (l : List Int) : Prop := (∀ x, x ∈ l → 0 ≤ x) ∧ isum l ≤ 1125899906842624
instance (l : List Int) : Decidable (Fit l) := by unfold Fit; infer_instance

theorem right_loop (l : List Int) (hl : l.length ≤ 9223372036854775807) :
    ∀ (k i : Nat), l.length < i + k → i ≤ l.length →
      right_loop2 sum k l l (l.length : Int) i = some (if ∀ x, x ∈ l.drop i → 0 ≤ x then .inl l else .inr false) := by
  intro k
  induction k with
  | zero => intro i h hi; omega
  | succ k ih =>
    intro i h hi0
    unfold right_loop2 right_loop2_step
    rw [Int.toNat_natCast]
    by_cases hi : i < l.length
    · rw [drop_cons l i 0 hi, inb _ _ hi]
      generalize l.getD i 0 = x at *
      have hi' : (i : Int) < (l.length : Int) := by omega
      simp only [hi', decide_true, cond_true]
      by_cases hx : x < 0
      · simp only [hx, decide_true, cond_true]
        rw [if_neg (fun hh => by have := hh x (by simp); omega)]
      · simp only [hx, decide_false, cond_false]
        rw [wi_id ((i : Int) + 1) (by omega) (by omega)]
        have h2 := ih (i + 1) (by omega) (by omega)
        have e : (∀ y, y ∈ x :: l.drop (i + 1) → 0 ≤ y) ↔ (∀ y, y ∈ l.drop (i + 1) → 0 ≤ y) := by
          constructor
          · intro hh y hy; exact hh y (by simp [hy])
          · intro hh y hy
            rcases List.mem_cons.1 hy with rfl | hy
            · omega
            · exact hh y hy
        simp only [e]
        exact h2
    · have hi' : ¬ (i : Int) < (l.length : Int) := by omega
      rw [List.drop_eq_nil_of_le (by omega)]
      simp only [hi', decide_false, cond_false]
      rw [if_pos (fun y hy => by cases hy)]

theorem right_eq (l : List Int) (hr : ∀ x, x ∈ l → InR x) (hl : l.length ≤ 9223372036854775807) : right l = some (decide (Fit l)) := by
  unfold right right_body
  have h : right_loop2 sum FUEL l l (l.length : Int) 0 = _ := right_loop l hl FUEL 0 (fuel_gt _ hl) (by omega)
  rw [h, List.drop_zero]
  by_cases hn : ∀ x, x ∈ l → 0 ≤ x
  · rw [if_pos hn]
    simp only [Option.bind_some, Sum.elim, sum_eq l hr hl]
    have h0 := isum_nonneg hn
    by_cases hc : isum l ≤ 9223372036854775807
    · rw [if_pos ⟨by omega, hc⟩]
      simp only [cond_true, Option.bind_some, Option.some.injEq, decide_eq_decide]
      unfold Fit
      exact ⟨fun h => ⟨hn, h⟩, fun h => h.2⟩
    · rw [if_neg (fun h => hc h.2)]
      simp only [cond_false, Option.bind_some, Option.some.injEq]
      have : ¬ Fit l := fun h => hc (by have := h.2; omega)
      simp only [this, decide_false]
  · rw [if_neg hn]
    have : ¬ Fit l := fun h => hn h.1
    simp only [Option.bind_some, Sum.elim, this, decide_false]

theorem right__eq (l : List Int) (o : Int) (hr : ∀ x, x ∈ l → InR x) (hl : l.length ≤ 9223372036854775807) :
    right_ l o = some (decide (0 ≤ o ∧ o ≤ 16 ∧ (l.length : Int) = o ∧ Fit l)) := by
  unfold right_ right__body
  simp only [sc_and, Option.bind_some, right_eq l hr hl, Option.some.injEq]
  by_cases h1 : 0 ≤ o <;> by_cases h2 : o ≤ 16 <;> by_cases h3 : (l.length : Int) = o <;> by_cases h4 : Fit l <;> simp [h1, h2, h3, h4]
end Go.Lift.S17
