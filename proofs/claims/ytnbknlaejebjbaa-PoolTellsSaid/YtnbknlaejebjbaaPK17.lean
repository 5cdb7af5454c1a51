import Derived.Test.YtnbknlaejebjbaaPI17
set_option linter.all false
/- Exchanging two blocks. -/
set_option linter.unusedSimpArgs false
set_option linter.unusedVariables false
namespace Go.Lift.S17
open Go Go.Lift Go.Lift.Ar

theorem getD_ix {d : List Int} {x y : Nat} (h : x = y) : d.getD x 0 = d.getD y 0 := by rw [h]

theorem swapRange_loop_is (a b n N : Nat) (hab : a + n ≤ b) (hN : b + n ≤ N) (hM : N ≤ 4611686018427387904) : ∀ (k i : Nat) (d : List Int), n < i + k → i ≤ n → d.length = N →
    ∃ d', swapRange_loop1 share2 k (a : Int) (b : Int) (n : Int) (i : Int) d = some d' ∧ d'.length = N ∧ d'.Perm d ∧
      (∀ p, a + i ≤ p → p < a + n → d'.getD p 0 = d.getD (p + (b - a)) 0) ∧ (∀ p, b + i ≤ p → p < b + n → d'.getD p 0 = d.getD (p - (b - a)) 0) ∧ (∀ p, p < a + i ∨ (a + n ≤ p ∧ p < b + i) ∨ b + n ≤ p → d'.getD p 0 = d.getD p 0) := by
  intro k
  induction k with
  | zero => intro i d h hi; omega
  | succ k ih =>
    intro i d h hi hd
    unfold swapRange_loop1 swapRange_loop1_step
    by_cases hin : i < n
    · have hlt : decide ((i : Int) < (n : Int)) = true := decide_eq_true (by omega)
      have e1 : wi ((b : Int) + (i : Int)) = ((b + i : Nat) : Int) := wi_id _ (by omega) (by omega)
      have e2 : wi ((a : Int) + (i : Int)) = ((a + i : Nat) : Int) := wi_id _ (by omega) (by omega)
      have e3 : wi ((i : Int) + 1) = ((i + 1 : Nat) : Int) := wi_id _ (by omega) (by omega)
      rw [hlt, e1, e2, e3, Int.toNat_natCast, Int.toNat_natCast, Nat.zero_add, Nat.zero_add, List.length_set, inb (b + i) d.length (by omega), inb (a + i) d.length (by omega)]
      simp only [cond_true]
      have hsw : ∀ p, (swp d (a + i) (b + i)).getD p 0 = if p = b + i then d.getD (a + i) 0 else if p = a + i then d.getD (b + i) 0 else d.getD p 0 := fun p => swp_getD d (a + i) (b + i) p (by omega) (by omega)
      obtain ⟨d', g1, g2, g3, g4, g5, g6⟩ := ih (i + 1) (swp d (a + i) (b + i)) (by omega) (by omega) (by rw [swp_length, hd])
      refine ⟨d', g1, g2, g3.trans (swp_perm _ _ _ (by omega) (by omega)), fun p h1 h2 => ?_, fun p h1 h2 => ?_, fun p h1 => ?_⟩
      · by_cases hp : p = a + i
        · rw [g6 p (.inl (by omega)), hsw, if_neg (by omega), if_pos hp]; exact getD_ix (by omega)
        · rw [g4 p (by omega) h2, hsw, if_neg (by omega), if_neg (by omega)]
      · by_cases hp : p = b + i
        · rw [g6 p (.inr (.inl (by omega))), hsw, if_pos hp]; exact getD_ix (by omega)
        · rw [g5 p (by omega) h2, hsw, if_neg (by omega), if_neg (by omega)]
      · rw [g6 p (by omega), hsw, if_neg (by omega), if_neg (by omega)]
    · have hlt : decide ((i : Int) < (n : Int)) = false := decide_eq_false (by omega)
      rw [hlt]
      exact ⟨d, rfl, hd, List.Perm.refl _, fun p h1 h2 => by omega, fun p h1 h2 => by omega, fun p _ => rfl⟩

theorem swapRange_is (a b n N : Nat) (c : List Int × Unit) (hab : a + n ≤ b) (hN : b + n ≤ N) (hM : N ≤ 4611686018427387904) (d : List Int) (hd : d.length = N) :
    ∃ d', swapRange (a : Int) (b : Int) (n : Int) c d = some d' ∧ d'.length = N ∧ d'.Perm d ∧
      (∀ p, a ≤ p → p < a + n → d'.getD p 0 = d.getD (p + (b - a)) 0) ∧ (∀ p, b ≤ p → p < b + n → d'.getD p 0 = d.getD (p - (b - a)) 0) ∧ (∀ p, p < a ∨ (a + n ≤ p ∧ p < b) ∨ b + n ≤ p → d'.getD p 0 = d.getD p 0) := by
  obtain ⟨d', g1, g2, g3, g4, g5, g6⟩ := swapRange_loop_is a b n N hab hN hM FUEL 0 d (by have : FUEL = 18446744073709551616 := rfl; omega) (by omega) hd
  refine ⟨d', ?_, g2, g3, g4, g5, g6⟩
  unfold swapRange swapRange_body
  rw [bind_eta]
  exact g1

theorem rotate_loop_is (m N : Nat) (c : List Int × Unit) (hM : N ≤ 4611686018427387904) : ∀ (k i j : Nat) (d : List Int), i + j < k → 0 < i → 0 < j → i ≤ m → m + j ≤ N → d.length = N →
    ∃ (r : Nat) (d1 d' : List Int), rotate_loop2 share2 swapRange k (m : Int) c (i : Int) (j : Int) d = some ((m : Int), c, (r : Int), d1) ∧ 0 < r ∧ r ≤ m ∧ m + r ≤ N ∧ d1.length = N ∧ swapRange ((m - r : Nat) : Int) (m : Int) (r : Int) c d1 = some d' ∧ d'.length = N ∧ d'.Perm d ∧
      (∀ p, m - i ≤ p → p < m - i + j → d'.getD p 0 = d.getD (p + i) 0) ∧ (∀ p, m - i + j ≤ p → p < m + j → d'.getD p 0 = d.getD (p - j) 0) ∧ (∀ p, p < m - i ∨ m + j ≤ p → d'.getD p 0 = d.getD p 0) := by
  intro k
  induction k with
  | zero => intro i j d h; omega
  | succ k ih =>
    intro i j d h hi hj him hjN hd
    unfold rotate_loop2 rotate_loop2_step
    by_cases hij : i = j
    · subst hij
      rw [bne_self_eq_false, cond_false]
      obtain ⟨d', g1, g2, g3, g4, g5, g6⟩ := swapRange_is (m - i) m i N c (by omega) (by omega) hM d hd
      refine ⟨i, d, d', rfl, hi, him, hjN, hd, g1, g2, g3, fun p h1 h2 => ?_, fun p h1 h2 => ?_, fun p h1 => g6 p (by omega)⟩
      · rw [g4 p h1 h2]; exact getD_ix (by omega)
      · rw [g5 p (by omega) h2]; exact getD_ix (by omega)
    · have hne : ((i : Int) != (j : Int)) = true := by simp; omega
      rw [hne, cond_true]
      have e1 : wi ((m : Int) - (i : Int)) = ((m - i : Nat) : Int) := by rw [wi_id _ (by omega) (by omega)]; omega
      rw [e1]
      by_cases hgt : j < i
      · have e2 : wi ((i : Int) - (j : Int)) = ((i - j : Nat) : Int) := by rw [wi_id _ (by omega) (by omega)]; omega
        rw [decide_eq_true (show (i : Int) > (j : Int) by omega), cond_true, e2]
        obtain ⟨d1, g1, g2, g3, g4, g5, g6⟩ := swapRange_is (m - i) m j N c (by omega) (by omega) hM d hd
        rw [g1]
        simp only [Option.bind_some]
        obtain ⟨r, d2, d', y1, y2, y3, y4, y5, y6, y7, y8, y9, y10, y11⟩ := ih (i - j) j d1 (by omega) (by omega) hj (by omega) hjN g2
        refine ⟨r, d2, d', y1, y2, y3, y4, y5, y6, y7, y8.trans g3, fun p h1 h2 => ?_, fun p h1 h2 => ?_, fun p h1 => ?_⟩
        · rw [y11 p (by omega), g4 p h1 h2]; exact getD_ix (by omega)
        · by_cases hp : p < m - (i - j) + j
          · rw [y9 p (by omega) hp, g5 (p + (i - j)) (by omega) (by omega)]; exact getD_ix (by omega)
          · rw [y10 p (by omega) h2, g6 (p - j) (by omega)]
        · rw [y11 p (by omega), g6 p (by omega)]
      · have e2 : wi ((j : Int) - (i : Int)) = ((j - i : Nat) : Int) := by rw [wi_id _ (by omega) (by omega)]; omega
        have e3 : wi ((m : Int) + (j : Int)) = ((m + j : Nat) : Int) := by rw [wi_id _ (by omega) (by omega)]; omega
        have e4 : wi (((m + j : Nat) : Int) - (i : Int)) = ((m + j - i : Nat) : Int) := by rw [wi_id _ (by omega) (by omega)]; omega
        rw [decide_eq_false (show ¬ (i : Int) > (j : Int) by omega), cond_false, e2, e3, e4]
        obtain ⟨d1, g1, g2, g3, g4, g5, g6⟩ := swapRange_is (m - i) (m + j - i) i N c (by omega) (by omega) hM d hd
        rw [g1]
        simp only [Option.bind_some]
        obtain ⟨r, d2, d', y1, y2, y3, y4, y5, y6, y7, y8, y9, y10, y11⟩ := ih i (j - i) d1 (by omega) hi (by omega) him (by omega) g2
        refine ⟨r, d2, d', y1, y2, y3, y4, y5, y6, y7, y8.trans g3, fun p h1 h2 => ?_, fun p h1 h2 => ?_, fun p h1 => ?_⟩
        · by_cases hp : p < m - i + (j - i)
          · rw [y9 p h1 hp, g6 (p + i) (by omega)]
          · by_cases hp2 : p < m + (j - i)
            · rw [y10 p (by omega) hp2, g4 (p - (j - i)) (by omega) (by omega)]; exact getD_ix (by omega)
            · exfalso; omega
        · rw [y11 p (by omega), g5 p (by omega) (by omega)]; exact getD_ix (by omega)
        · rw [y11 p (by omega), g6 p (by omega)]

theorem rotate_is (a m b N : Nat) (c : List Int × Unit) (ham : a < m) (hmb : m < b) (hN : b ≤ N) (hM : N ≤ 4611686018427387904) (d : List Int) (hd : d.length = N) :
    ∃ d', rotate (a : Int) (m : Int) (b : Int) c d = some d' ∧ d'.length = N ∧ d'.Perm d ∧
      (∀ p, a ≤ p → p < a + (b - m) → d'.getD p 0 = d.getD (p + (m - a)) 0) ∧ (∀ p, a + (b - m) ≤ p → p < b → d'.getD p 0 = d.getD (p - (b - m)) 0) ∧ (∀ p, p < a ∨ b ≤ p → d'.getD p 0 = d.getD p 0) := by
  have e1 : wi ((m : Int) - (a : Int)) = ((m - a : Nat) : Int) := by rw [wi_id _ (by omega) (by omega)]; omega
  have e2 : wi ((b : Int) - (m : Int)) = ((b - m : Nat) : Int) := by rw [wi_id _ (by omega) (by omega)]; omega
  obtain ⟨r, d1, d', y1, y2, y3, y4, y5, y6, y7, y8, y9, y10, y11⟩ := rotate_loop_is m N c hM FUEL (m - a) (b - m) d (by have : FUEL = 18446744073709551616 := rfl; omega) (by omega) (by omega) (by omega) (by omega) hd
  have e3 : wi ((m : Int) - (r : Int)) = ((m - r : Nat) : Int) := by rw [wi_id _ (by omega) (by omega)]; omega
  refine ⟨d', ?_, y7, y8, fun p h1 h2 => ?_, fun p h1 h2 => ?_, fun p h1 => y11 p (by omega)⟩
  · unfold rotate rotate_body
    rw [e1, e2, y1]
    simp only [Option.bind_some]
    rw [e3, y6]
    rfl
  · rw [y9 p (by omega) (by omega)]
  · rw [y10 p (by omega) (by omega)]
end Go.Lift.S17
