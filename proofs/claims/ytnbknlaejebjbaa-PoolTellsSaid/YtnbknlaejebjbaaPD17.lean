import Derived.Test.YtnbknlaejebjbaaNS17
import Derived.Test.YtnbknlaejebjbaaPA
set_option linter.all false
/- math/bits: Mul64 and Div64 are the product and the quotient. -/
set_option linter.unusedSimpArgs false
set_option linter.unusedVariables false
namespace Go.Lift.S17
open Go Go.Lift Go.Lift.Ar

theorem mul64_eq (x y : Int) (hx0 : 0 ≤ x) (hx : x < 18446744073709551616) (hy0 : 0 ≤ y) (hy : y < 18446744073709551616) :
    mul64 x y = some (x * y / 18446744073709551616, x * y % 18446744073709551616) := by
  unfold mul64 mul64_body
  have m := mul64_arith x y hx0 hx hy0 hy
  rw [andLow y hy0 hy, andLow x hx0 hx]
  simp only [fd32, wu_mod] at m ⊢
  have al : ∀ z : Int, (↑(BitVec.toNat (BitVec.ofInt 64 (z % 18446744073709551616) &&& BitVec.ofInt 64 4294967295)) : Int) % 18446744073709551616 = z % 18446744073709551616 % 4294967296 := fun z => by
    have := andLow (z % 18446744073709551616) (Int.emod_nonneg _ (by decide)) (Int.emod_lt_of_pos _ (by decide))
    rw [wu_mod] at this
    exact this
  rw [al]
  rw [m]

theorem loop17_eq (lz : Int → Option Int) (y s yn1 yn0 un32 un1 un0 : Int) (h1 : 2147483648 ≤ yn1) (h1' : yn1 < 4294967296) (h0 : 0 ≤ yn0) (h0' : yn0 < 4294967296)
    (hun0 : 0 ≤ un32) (hun : un32 < yn1 * 4294967296 + yn0) (hd : 0 ≤ un1) (hd' : un1 < 4294967296) :
    ∀ (k : Nat) (q r : Int), un32 = q * yn1 + r → 0 ≤ r → r < 4294967296 → 0 ≤ q → q ≤ 4294967297 → (un32 * 4294967296 + un1) / (yn1 * 4294967296 + yn0) ≤ q →
      4294967296 ≤ r + k * yn1 →
      div64_loop17 lz (k + 1) y s yn1 yn0 un32 un1 un0 q r = some (y, s, yn1, yn0, un32, un1, un0, (un32 * 4294967296 + un1) / (yn1 * 4294967296 + yn0)) := by
  intro k
  induction k with
  | zero => intro q r _ _ _ _ _ _ h; omega
  | succ k ih =>
    intro q r hu hr hr' hq hq' hle hk
    have hF0 : 0 ≤ (un32 * 4294967296 + un1) / (yn1 * 4294967296 + yn0) := Int.ediv_nonneg (by omega) (by omega)
    have hFB := digit_lt (Y := yn1 * 4294967296 + yn0) hd' hun (by omega)
    unfold div64_loop17 div64_loop17_step
    have go : (4294967296 ≤ q ∨ r * 4294967296 + un1 < q * yn0) →
        (bif Decidable.decide (wu (r + yn1) ≥ 4294967296) then some (y, s, yn1, yn0, un32, un1, un0, wu (q - 1)) else div64_loop17 lz (k + 1) y s yn1 yn0 un32 un1 un0 (wu (q - 1)) (wu (r + yn1))) = some (y, s, yn1, yn0, un32, un1, un0, (un32 * 4294967296 + un1) / (yn1 * 4294967296 + yn0)) := by
      intro hc
      have hle' : (un32 * 4294967296 + un1) / (yn1 * 4294967296 + yn0) ≤ q - 1 := by
        rcases hc with hc | hc
        · omega
        · exact digit_next (by omega) h0 hu hc
      have hu' : un32 = (q - 1) * yn1 + (r + yn1) := by rw [hu]; grind
      rw [wu_id (r + yn1) (by omega) (by omega), wu_id (q - 1) (by omega) (by omega)]
      by_cases hb : r + yn1 ≥ 4294967296
      · simp only [hb, decide_true, cond_true]
        rw [digit (q := q - 1) (r := r + yn1) (by omega) h0 hu' hle']
        have : (q - 1) * yn0 ≤ 4294967296 * yn0 := Int.mul_le_mul_of_nonneg_right (by omega) h0
        omega
      · simp only [hb, decide_false, cond_false]
        refine ih _ _ hu' (by omega) (by omega) (by omega) (by omega) hle' ?_
        have : ((k + 1 : Nat) : Int) * yn1 = k * yn1 + yn1 := by rw [Int.natCast_add, Int.add_mul]; omega
        omega
    by_cases hqB : q ≥ 4294967296
    · simp only [hqB, decide_true, cond_true, Option.bind_some]
      exact go (.inl hqB)
    · simp only [hqB, decide_false, cond_false, Option.bind_some]
      have hp := prod_bound q yn0 hq (by omega) h0 (by omega)
      rw [wu_id (q * yn0) (by omega) (by omega), wu_id (4294967296 * r) (by omega) (by omega), wu_id (4294967296 * r + un1) (by omega) (by omega)]
      by_cases hc : q * yn0 > 4294967296 * r + un1
      · simp only [hc, decide_true, cond_true]
        exact go (.inr (by omega))
      · simp only [hc, decide_false, cond_false]
        rw [digit (by omega) h0 hu hle (by omega)]

theorem loop24_eq (lz : Int → Option Int) (y s yn1 yn0 un0 q1 un32 : Int) (h1 : 2147483648 ≤ yn1) (h1' : yn1 < 4294967296) (h0 : 0 ≤ yn0) (h0' : yn0 < 4294967296)
    (hun0 : 0 ≤ un32) (hun : un32 < yn1 * 4294967296 + yn0) (hd : 0 ≤ un0) (hd' : un0 < 4294967296) :
    ∀ (k : Nat) (q r : Int), un32 = q * yn1 + r → 0 ≤ r → r < 4294967296 → 0 ≤ q → q ≤ 4294967297 → (un32 * 4294967296 + un0) / (yn1 * 4294967296 + yn0) ≤ q →
      4294967296 ≤ r + k * yn1 →
      div64_loop24 lz (k + 1) y s yn1 yn0 un0 q1 r un32 q = some (y, s, un0, q1, un32, (un32 * 4294967296 + un0) / (yn1 * 4294967296 + yn0)) := by
  intro k
  induction k with
  | zero => intro q r _ _ _ _ _ _ h; omega
  | succ k ih =>
    intro q r hu hr hr' hq hq' hle hk
    have hF0 : 0 ≤ (un32 * 4294967296 + un0) / (yn1 * 4294967296 + yn0) := Int.ediv_nonneg (by omega) (by omega)
    have hFB := digit_lt (Y := yn1 * 4294967296 + yn0) hd' hun (by omega)
    unfold div64_loop24 div64_loop24_step
    have go : (4294967296 ≤ q ∨ r * 4294967296 + un0 < q * yn0) →
        (bif Decidable.decide (wu (r + yn1) ≥ 4294967296) then some (y, s, un0, q1, un32, wu (q - 1)) else div64_loop24 lz (k + 1) y s yn1 yn0 un0 q1 (wu (r + yn1)) un32 (wu (q - 1))) = some (y, s, un0, q1, un32, (un32 * 4294967296 + un0) / (yn1 * 4294967296 + yn0)) := by
      intro hc
      have hle' : (un32 * 4294967296 + un0) / (yn1 * 4294967296 + yn0) ≤ q - 1 := by
        rcases hc with hc | hc
        · omega
        · exact digit_next (by omega) h0 hu hc
      have hu' : un32 = (q - 1) * yn1 + (r + yn1) := by rw [hu]; grind
      rw [wu_id (r + yn1) (by omega) (by omega), wu_id (q - 1) (by omega) (by omega)]
      by_cases hb : r + yn1 ≥ 4294967296
      · simp only [hb, decide_true, cond_true]
        rw [digit (q := q - 1) (r := r + yn1) (by omega) h0 hu' hle']
        have : (q - 1) * yn0 ≤ 4294967296 * yn0 := Int.mul_le_mul_of_nonneg_right (by omega) h0
        omega
      · simp only [hb, decide_false, cond_false]
        refine ih _ _ hu' (by omega) (by omega) (by omega) (by omega) hle' ?_
        have : ((k + 1 : Nat) : Int) * yn1 = k * yn1 + yn1 := by rw [Int.natCast_add, Int.add_mul]; omega
        omega
    by_cases hqB : q ≥ 4294967296
    · simp only [hqB, decide_true, cond_true, Option.bind_some]
      exact go (.inl hqB)
    · simp only [hqB, decide_false, cond_false, Option.bind_some]
      have hp := prod_bound q yn0 hq (by omega) h0 (by omega)
      rw [wu_id (q * yn0) (by omega) (by omega), wu_id (4294967296 * r) (by omega) (by omega), wu_id (4294967296 * r + un0) (by omega) (by omega)]
      by_cases hc : q * yn0 > 4294967296 * r + un0
      · simp only [hc, decide_true, cond_true]
        exact go (.inr (by omega))
      · simp only [hc, decide_false, cond_false]
        rw [digit (by omega) h0 hu hle (by omega)]


def lenTab : List UInt8 := [0, 1, 2, 2, 3, 3, 3, 3, 4, 4, 4, 4, 4, 4, 4, 4, 5, 5, 5, 5, 5, 5, 5, 5, 5, 5, 5, 5, 5, 5, 5, 5, 6, 6, 6, 6, 6, 6, 6, 6, 6, 6, 6, 6, 6, 6, 6, 6, 6, 6, 6, 6, 6, 6, 6, 6, 6, 6, 6, 6, 6, 6, 6, 6, 7, 7, 7, 7, 7, 7, 7, 7, 7, 7, 7, 7, 7, 7, 7, 7, 7, 7, 7, 7, 7, 7, 7, 7, 7, 7, 7, 7, 7, 7, 7, 7, 7, 7, 7, 7, 7, 7, 7, 7, 7, 7, 7, 7, 7, 7, 7, 7, 7, 7, 7, 7, 7, 7, 7, 7, 7, 7, 7, 7, 7, 7, 7, 7, 8, 8, 8, 8, 8, 8, 8, 8, 8, 8, 8, 8, 8, 8, 8, 8, 8, 8, 8, 8, 8, 8, 8, 8, 8, 8, 8, 8, 8, 8, 8, 8, 8, 8, 8, 8, 8, 8, 8, 8, 8, 8, 8, 8, 8, 8, 8, 8, 8, 8, 8, 8, 8, 8, 8, 8, 8, 8, 8, 8, 8, 8, 8, 8, 8, 8, 8, 8, 8, 8, 8, 8, 8, 8, 8, 8, 8, 8, 8, 8, 8, 8, 8, 8, 8, 8, 8, 8, 8, 8, 8, 8, 8, 8, 8, 8, 8, 8, 8, 8, 8, 8, 8, 8, 8, 8, 8, 8, 8, 8, 8, 8, 8, 8, 8, 8, 8, 8, 8, 8, 8, 8, 8, 8, 8, 8, 8, 8]

theorem lenTab_get : ∀ i : Nat, i < 256 → (lenTab.getD i 0).toNat = bitLen i := by
  have all : ∀ j : Fin 256, (lenTab.getD j.val 0).toNat = bitLen j.val := by decide +kernel
  exact fun i h => all ⟨i, h⟩

theorem len64_shape (x : Int) : len64 x = (fun (T : List UInt8) => bif Decidable.decide (x ≥ (4294967296 : Int)) then bif Decidable.decide (Int.fdiv x ((2 : Int) ^ (32 : Nat)) ≥ (65536 : Int)) then bif Decidable.decide (Int.fdiv (Int.fdiv x ((2 : Int) ^ (32 : Nat))) ((2 : Int) ^ (16 : Nat)) ≥ (256 : Int)) then bif Decidable.decide ((0 : Int) ≤ w8 (Int.fdiv (Int.fdiv (Int.fdiv x ((2 : Int) ^ (32 : Nat))) ((2 : Int) ^ (16 : Nat))) ((2 : Int) ^ (8 : Nat)))) && Decidable.decide (w8 (Int.fdiv (Int.fdiv (Int.fdiv x ((2 : Int) ^ (32 : Nat))) ((2 : Int) ^ (16 : Nat))) ((2 : Int) ^ (8 : Nat))) < (↑((256 : Nat)) : Int)) then Option.some (wi (wi (wi ((32 : Int) + (16 : Int)) + (8 : Int)) + wi (↑(UInt8.toNat (List.getD T (Int.toNat (w8 (Int.fdiv (Int.fdiv (Int.fdiv x ((2 : Int) ^ (32 : Nat))) ((2 : Int) ^ (16 : Nat))) ((2 : Int) ^ (8 : Nat))))) (0 : UInt8))) : Int))) else Option.none else bif Decidable.decide ((0 : Int) ≤ w8 (Int.fdiv (Int.fdiv x ((2 : Int) ^ (32 : Nat))) ((2 : Int) ^ (16 : Nat)))) && Decidable.decide (w8 (Int.fdiv (Int.fdiv x ((2 : Int) ^ (32 : Nat))) ((2 : Int) ^ (16 : Nat))) < (↑((256 : Nat)) : Int)) then Option.some (wi (wi ((32 : Int) + (16 : Int)) + wi (↑(UInt8.toNat (List.getD T (Int.toNat (w8 (Int.fdiv (Int.fdiv x ((2 : Int) ^ (32 : Nat))) ((2 : Int) ^ (16 : Nat))))) (0 : UInt8))) : Int))) else Option.none else bif Decidable.decide (Int.fdiv x ((2 : Int) ^ (32 : Nat)) ≥ (256 : Int)) then bif Decidable.decide ((0 : Int) ≤ w8 (Int.fdiv (Int.fdiv x ((2 : Int) ^ (32 : Nat))) ((2 : Int) ^ (8 : Nat)))) && Decidable.decide (w8 (Int.fdiv (Int.fdiv x ((2 : Int) ^ (32 : Nat))) ((2 : Int) ^ (8 : Nat))) < (↑((256 : Nat)) : Int)) then Option.some (wi (wi ((32 : Int) + (8 : Int)) + wi (↑(UInt8.toNat (List.getD T (Int.toNat (w8 (Int.fdiv (Int.fdiv x ((2 : Int) ^ (32 : Nat))) ((2 : Int) ^ (8 : Nat))))) (0 : UInt8))) : Int))) else Option.none else bif Decidable.decide ((0 : Int) ≤ w8 (Int.fdiv x ((2 : Int) ^ (32 : Nat)))) && Decidable.decide (w8 (Int.fdiv x ((2 : Int) ^ (32 : Nat))) < (↑((256 : Nat)) : Int)) then Option.some (wi ((32 : Int) + wi (↑(UInt8.toNat (List.getD T (Int.toNat (w8 (Int.fdiv x ((2 : Int) ^ (32 : Nat))))) (0 : UInt8))) : Int))) else Option.none else bif Decidable.decide (x ≥ (65536 : Int)) then bif Decidable.decide (Int.fdiv x ((2 : Int) ^ (16 : Nat)) ≥ (256 : Int)) then bif Decidable.decide ((0 : Int) ≤ w8 (Int.fdiv (Int.fdiv x ((2 : Int) ^ (16 : Nat))) ((2 : Int) ^ (8 : Nat)))) && Decidable.decide (w8 (Int.fdiv (Int.fdiv x ((2 : Int) ^ (16 : Nat))) ((2 : Int) ^ (8 : Nat))) < (↑((256 : Nat)) : Int)) then Option.some (wi (wi (wi ((0 : Int) + (16 : Int)) + (8 : Int)) + wi (↑(UInt8.toNat (List.getD T (Int.toNat (w8 (Int.fdiv (Int.fdiv x ((2 : Int) ^ (16 : Nat))) ((2 : Int) ^ (8 : Nat))))) (0 : UInt8))) : Int))) else Option.none else bif Decidable.decide ((0 : Int) ≤ w8 (Int.fdiv x ((2 : Int) ^ (16 : Nat)))) && Decidable.decide (w8 (Int.fdiv x ((2 : Int) ^ (16 : Nat))) < (↑((256 : Nat)) : Int)) then Option.some (wi (wi ((0 : Int) + (16 : Int)) + wi (↑(UInt8.toNat (List.getD T (Int.toNat (w8 (Int.fdiv x ((2 : Int) ^ (16 : Nat))))) (0 : UInt8))) : Int))) else Option.none else bif Decidable.decide (x ≥ (256 : Int)) then bif Decidable.decide ((0 : Int) ≤ w8 (Int.fdiv x ((2 : Int) ^ (8 : Nat)))) && Decidable.decide (w8 (Int.fdiv x ((2 : Int) ^ (8 : Nat))) < (↑((256 : Nat)) : Int)) then Option.some (wi (wi ((0 : Int) + (8 : Int)) + wi (↑(UInt8.toNat (List.getD T (Int.toNat (w8 (Int.fdiv x ((2 : Int) ^ (8 : Nat))))) (0 : UInt8))) : Int))) else Option.none else bif Decidable.decide ((0 : Int) ≤ w8 x) && Decidable.decide (w8 x < (↑((256 : Nat)) : Int)) then Option.some (wi ((0 : Int) + wi (↑(UInt8.toNat (List.getD T (Int.toNat (w8 x)) (0 : UInt8))) : Int))) else Option.none) lenTab := by kernel_rfl

theorem len64_eq (x : Int) (h0 : 0 ≤ x) (h1 : x < 18446744073709551616) : len64 x = some ((bitLen x.toNat : Nat) : Int) := by
  rw [len64_shape]
  obtain ⟨X, rfl⟩ := Int.eq_ofNat_of_zero_le h0
  have look : ∀ v : Int, 0 ≤ v → v < 256 → (((lenTab.getD (Int.toNat (w8 v)) (0 : UInt8)).toNat : Nat) : Int) = ((bitLen v.toNat : Nat) : Int) := fun v a b => by
    rw [w8_mod, Int.emod_eq_of_lt a b, lenTab_get _ (by omega)]
  have inb : ∀ v : Int, 0 ≤ v → v < 256 → (decide (0 ≤ w8 v) && decide (w8 v < 256)) = true := fun v a b => by
    rw [w8_mod, Int.emod_eq_of_lt a b]; simp; omega
  have le8 : ∀ v : Int, v < 256 → bitLen v.toNat ≤ 8 := fun v b => bitLen_le8 _ (by omega)
  clear h0
  have h0 : 0 ≤ (X : Int) := by omega
  generalize (X : Int) = x at *
  show (fun (T : List UInt8) => _) lenTab = _
  simp only [fd32, fd16, fd8]
  have fin : ∀ v k : Int, 0 ≤ v → v < 256 → 0 ≤ k → k ≤ 56 → ((bitLen x.toNat : Nat) : Int) = k + ((bitLen v.toNat : Nat) : Int) →
      (bif (decide (0 ≤ w8 v) && decide (w8 v < 256)) then some (wi (k + wi (((lenTab.getD (Int.toNat (w8 v)) (0 : UInt8)).toNat : Nat) : Int))) else none) = some ((bitLen x.toNat : Nat) : Int) := fun v k a b c d e => by
    rw [inb v a b, look v a b, cond_true, e]
    have := le8 v b
    rw [wi_id (((bitLen v.toNat : Nat)) : Int) (by omega) (by omega), wi_id _ (by omega) (by omega)]
  by_cases a : x ≥ 4294967296
  · have sa := bitLen_shift' x 4294967296 32 32 h0 rfl rfl (by omega)
    simp only [a, decide_true, cond_true]
    by_cases b : x / 4294967296 ≥ 65536
    · have sb := bitLen_shift' (x / 4294967296) 65536 16 16 (by omega) rfl rfl (by omega)
      simp only [b, decide_true, cond_true]
      by_cases c : x / 4294967296 / 65536 ≥ 256
      · have sc := bitLen_shift' (x / 4294967296 / 65536) 256 8 8 (by omega) rfl rfl (by omega)
        simp only [c, decide_true, cond_true]
        exact fin _ 56 (by omega) (by omega) (by omega) (by omega) (by omega)
      · simp only [c, decide_false, cond_false]
        exact fin _ 48 (by omega) (by omega) (by omega) (by omega) (by omega)
    · simp only [b, decide_false, cond_false]
      by_cases c : x / 4294967296 ≥ 256
      · have sc := bitLen_shift' (x / 4294967296) 256 8 8 (by omega) rfl rfl (by omega)
        simp only [c, decide_true, cond_true]
        exact fin _ 40 (by omega) (by omega) (by omega) (by omega) (by omega)
      · simp only [c, decide_false, cond_false]
        exact fin _ 32 (by omega) (by omega) (by omega) (by omega) (by omega)
  · simp only [a, decide_false, cond_false]
    by_cases b : x ≥ 65536
    · have sb := bitLen_shift' x 65536 16 16 (by omega) rfl rfl (by omega)
      simp only [b, decide_true, cond_true]
      by_cases c : x / 65536 ≥ 256
      · have sc := bitLen_shift' (x / 65536) 256 8 8 (by omega) rfl rfl (by omega)
        simp only [c, decide_true, cond_true]
        exact fin _ 24 (by omega) (by omega) (by omega) (by omega) (by omega)
      · simp only [c, decide_false, cond_false]
        exact fin _ 16 (by omega) (by omega) (by omega) (by omega) (by omega)
    · simp only [b, decide_false, cond_false]
      by_cases c : x ≥ 256
      · have sc := bitLen_shift' x 256 8 8 (by omega) rfl rfl (by omega)
        simp only [c, decide_true, cond_true]
        exact fin _ 8 (by omega) (by omega) (by omega) (by omega) (by omega)
      · simp only [c, decide_false, cond_false]
        exact fin _ 0 (by omega) (by omega) (by omega) (by omega) (by omega)

theorem div64_eq (hi lo y : Int) (hh : 0 ≤ hi) (hl : 0 ≤ lo) (hl' : lo < 18446744073709551616) (hy' : y < 18446744073709551616) (hlt : hi < y) :
    div64 hi lo y = some ((hi * 18446744073709551616 + lo) / y, (hi * 18446744073709551616 + lo) % y) := by
  have hy : 0 < y := by omega
  unfold div64 div64_body
  have e1 : (y == 0) = false := by simp; omega
  have e2 : decide (y ≤ hi) = false := by simp; omega
  rw [e1, e2]
  simp only [cond_false, Bool.not_false, cond_true]
  by_cases hz : hi = 0
  · subst hz
    simp only [beq_self_eq_true, cond_true, Int.zero_mul, Int.zero_add, Option.some.injEq, Prod.mk.injEq]
    rw [Int.tdiv_eq_ediv_of_nonneg hl, Int.tmod_eq_emod_of_nonneg hl, wu_id _ (Int.ediv_nonneg hl (by omega)) (Int.lt_of_le_of_lt (Int.ediv_le_self _ hl) hl')]
    exact ⟨rfl, rfl⟩
  have e3 : (hi == 0) = false := by simpa using hz
  rw [e3]
  simp only [cond_false]
  -- the shift
  obtain ⟨Y, rfl⟩ := Int.eq_ofNat_of_zero_le (show 0 ≤ y by omega)
  have hb := bitLen_spec Y
  have hb1 : 1 ≤ bitLen Y := by
    rcases Nat.eq_zero_or_pos (bitLen Y) with h | h
    · rw [h] at hb; omega
    · exact h
  have hb64 : bitLen Y ≤ 64 := by
    unfold bitLen
    split
    · omega
    · rename_i h; have := (Nat.log2_lt h).2 (show Y < 2 ^ 64 by have : (2 : Nat) ^ 64 = 18446744073709551616 := rfl; omega); omega
  have hlz : lz64 (Y : Int) = some (64 - (bitLen Y : Nat) : Int) := by
    unfold lz64 lz64_body
    rw [len64_eq _ (by omega) hy']
    simp only [Option.bind_some, Int.toNat_natCast, Option.some.injEq]
    rw [wi_id _ (by omega) (by omega)]
  rw [hlz]
  obtain ⟨S, hS⟩ : ∃ S : Nat, S = 64 - bitLen Y := ⟨_, rfl⟩
  have hSz : (64 - (bitLen Y : Nat) : Int) = (S : Int) := by omega
  have hS64 : S ≤ 63 := by omega
  rw [hSz]
  simp only [Option.bind_some]
  rw [wu_id (S : Int) (by omega) (by omega), wu_id (64 - (S : Int)) (by omega) (by omega), Int.toNat_natCast,
    show Min.min S 64 = S by omega, show Min.min (64 - (S : Int)).toNat 64 = 64 - S by omega]
  have hP : (0 : Int) < 2 ^ S := Int.pow_pos (by decide)
  have hQ : (0 : Int) < 2 ^ (64 - S) := Int.pow_pos (by decide)
  have hPQ : (2 : Int) ^ S * 2 ^ (64 - S) = 18446744073709551616 := by
    rw [← Int.pow_add, show S + (64 - S) = 64 by omega]; rfl
  have hYlo : 9223372036854775808 ≤ (Y : Int) * 2 ^ S := by
    have h := hb.2 (by omega)
    have : 2 ^ (bitLen Y - 1) * 2 ^ S ≤ Y * 2 ^ S := Nat.mul_le_mul_right _ h
    rw [← Nat.pow_add, show bitLen Y - 1 + S = 63 by omega] at this
    have h2 : ((2 ^ 63 : Nat) : Int) ≤ ((Y * 2 ^ S : Nat) : Int) := by exact Int.ofNat_le.2 this
    rw [Int.natCast_mul, Int.natCast_pow] at h2
    exact h2
  have hYhi : (Y : Int) * 2 ^ S < 18446744073709551616 := by
    have : Y * 2 ^ S < 2 ^ bitLen Y * 2 ^ S := Nat.mul_lt_mul_of_pos_right hb.1 (Nat.pow_pos (by decide))
    rw [← Nat.pow_add, show bitLen Y + S = 64 by omega] at this
    have h2 : ((Y * 2 ^ S : Nat) : Int) < ((2 ^ 64 : Nat) : Int) := Int.ofNat_lt.2 this
    rw [Int.natCast_mul, Int.natCast_pow] at h2
    exact h2
  have hhi : hi * 2 ^ S + 2 ^ S ≤ (Y : Int) * 2 ^ S := by
    have : (hi + 1) * 2 ^ S ≤ (Y : Int) * 2 ^ S := Int.mul_le_mul_of_nonneg_right (by omega) (by omega)
    rw [Int.add_mul] at this
    omega
  have hhi0 : 0 ≤ hi * 2 ^ S := Int.mul_nonneg hh (by omega)
  have hloQ : lo / 2 ^ (64 - S) < 2 ^ S := (Int.ediv_lt_iff_lt_mul hQ).2 (by omega)
  have hloQ0 : 0 ≤ lo / 2 ^ (64 - S) := Int.ediv_nonneg hl (by omega)
  have hlo2 : lo * 2 ^ S / 18446744073709551616 = lo / 2 ^ (64 - S) := by
    rw [← hPQ, Int.mul_comm (2 ^ S), Int.mul_ediv_mul_of_pos_left _ _ hP]
  have hlo3 := Int.mul_ediv_add_emod (lo * 2 ^ S) 18446744073709551616
  rw [hlo2] at hlo3
  rw [wu_id ((Y : Int) * 2 ^ S) (by omega) hYhi, wu_id (hi * 2 ^ S) hhi0 (by omega), Int.fdiv_eq_ediv_of_nonneg lo (by omega),
    orSum hi _ S hh hloQ0 hloQ (by omega), andLow _ (by omega) hYhi, wu_mod (lo * 2 ^ S)]
  have hw0 := Int.emod_nonneg (lo * 2 ^ S) (show (18446744073709551616 : Int) ≠ 0 by decide)
  have hw1 := Int.emod_lt_of_pos (lo * 2 ^ S) (show (0 : Int) < 18446744073709551616 by decide)
  rw [andLow _ hw0 hw1]
  simp only [fd32]
  have hN : (hi * 18446744073709551616 + lo) * 2 ^ S = ((hi * 2 ^ S + lo / 2 ^ (64 - S)) * 4294967296 + lo * 2 ^ S % 18446744073709551616 / 4294967296) * 4294967296 + lo * 2 ^ S % 18446744073709551616 % 4294967296 := by
    have : (hi * 18446744073709551616 + lo) * 2 ^ S = hi * 2 ^ S * 18446744073709551616 + lo * 2 ^ S := by grind
    rw [this]
    omega
  have kn := fun F1 F0 u21 rem h1 h2 h3 h4 => knuth (N := hi * 18446744073709551616 + lo) (Y := Y) (P := 2 ^ S) (F1 := F1) (F0 := F0) (u21 := u21) (rem := rem) hy hP hN h1 h2 h3 h4
  have hun : hi * 2 ^ S + lo / 2 ^ (64 - S) < (Y : Int) * 2 ^ S := by omega
  have hun0 : 0 ≤ hi * 2 ^ S + lo / 2 ^ (64 - S) := by omega
  have hd1 : 0 ≤ lo * 2 ^ S % 18446744073709551616 / 4294967296 ∧ lo * 2 ^ S % 18446744073709551616 / 4294967296 < 4294967296 := by omega
  have hd0 : 0 ≤ lo * 2 ^ S % 18446744073709551616 % 4294967296 ∧ lo * 2 ^ S % 18446744073709551616 % 4294967296 < 4294967296 := by omega
  clear hlo3 hlo2 hloQ hloQ0 hhi hhi0 hw0 hw1 hN
  generalize hi * 2 ^ S + lo / 2 ^ (64 - S) = u at *
  generalize lo * 2 ^ S % 18446744073709551616 / 4294967296 = d1 at *
  generalize lo * 2 ^ S % 18446744073709551616 % 4294967296 = d0 at *
  have hYs : (Y : Int) * 2 ^ S = (Y : Int) * 2 ^ S / 4294967296 * 4294967296 + (Y : Int) * 2 ^ S % 4294967296 := by omega
  generalize hYY : (Y : Int) * 2 ^ S = Z at *
  obtain ⟨a1, ha1⟩ : ∃ a, a = Z / 4294967296 := ⟨_, rfl⟩
  obtain ⟨a0, ha0⟩ : ∃ a, a = Z % 4294967296 := ⟨_, rfl⟩
  rw [← ha1, ← ha0]
  rw [← ha1, ← ha0] at hYs
  have b1 : 2147483648 ≤ a1 ∧ a1 < 4294967296 := by omega
  have b0 : 0 ≤ a0 ∧ a0 < 4294967296 := by omega
  -- a digit's start
  have start : ∀ v : Int, 0 ≤ v → v < Z → wu (Int.tdiv v a1) = v / a1 ∧ wu (v - wu (v / a1 * a1)) = v % a1 ∧ 0 ≤ v / a1 ∧ v / a1 ≤ 4294967297 := fun v hv0 hv => by
    have q0 : 0 ≤ v / a1 := Int.ediv_nonneg hv0 (by omega)
    have q1 : v / a1 < 4294967298 := (Int.ediv_lt_iff_lt_mul (by omega)).2 (by omega)
    have e := Int.mul_ediv_add_emod v a1
    rw [Int.mul_comm] at e
    have r0 := Int.emod_nonneg v (show a1 ≠ 0 by omega)
    refine ⟨?_, ?_, q0, by omega⟩
    · rw [Int.tdiv_eq_ediv_of_nonneg hv0, wu_id _ q0 (by omega)]
    · have : 0 ≤ v / a1 * a1 := Int.mul_nonneg q0 (by omega)
      rw [wu_id (v / a1 * a1) this (by omega), wu_id _ (by omega) (by omega)]
      omega
  have fuel : ∀ v : Int, 4294967296 ≤ v % a1 + ((FUEL - 1 : Nat) : Int) * a1 := fun v => by
    have r0 := Int.emod_nonneg v (show a1 ≠ 0 by omega)
    have : (2 : Int) * a1 ≤ ((FUEL - 1 : Nat) : Int) * a1 := Int.mul_le_mul_of_nonneg_right (by decide) (by omega)
    omega
  have fe : FUEL = (FUEL - 1) + 1 := by decide
  obtain ⟨t1, t2, t3, t4⟩ := start u hun0 hun
  have nz : (!a1 == (0 : Int)) = true := by simp; omega
  rw [nz, t1, t2, fe, loop17_eq _ Z S a1 a0 u d1 d0 b1.1 b1.2 b0.1 b0.2 hun0 (by omega) hd1.1 hd1.2 (FUEL - 1) (u / a1) (u % a1) (by have := Int.mul_ediv_add_emod u a1; rw [Int.mul_comm] at this; omega)
    (Int.emod_nonneg _ (by omega)) (by have := Int.emod_lt_of_pos u (show 0 < a1 by omega); omega) t3 t4 ((digit_first (by omega) b0.1 hd1.2).resolve_right (by omega)) (fuel u)]
  simp only [Option.bind_some]
  rw [← hYs]
  -- what is left
  have rest : ∀ v d : Int, 0 ≤ v → v < Z → 0 ≤ d → d < 4294967296 →
      wu (wu (wu (v * 4294967296) + d) - wu ((v * 4294967296 + d) / Z * Z)) = (v * 4294967296 + d) % Z := fun v d _ _ _ _ => by
    have e := Int.mul_ediv_add_emod (v * 4294967296 + d) Z
    have l0 := Int.emod_nonneg (v * 4294967296 + d) (show Z ≠ 0 by omega)
    have l1 := Int.emod_lt_of_pos (v * 4294967296 + d) (show 0 < Z by omega)
    rw [Int.mul_comm] at e
    simp only [wu_mod]
    omega
  rw [rest u d1 hun0 hun hd1.1 hd1.2]
  have hv0 := Int.emod_nonneg (u * 4294967296 + d1) (show Z ≠ 0 by omega)
  have hv1 := Int.emod_lt_of_pos (u * 4294967296 + d1) (show 0 < Z by omega)
  have f1 : (u * 4294967296 + d1) / Z < 4294967296 := digit_lt hd1.2 hun (by omega)
  have f1' : 0 ≤ (u * 4294967296 + d1) / Z := Int.ediv_nonneg (by omega) (by omega)
  have kn' := kn _ _ _ _ rfl rfl rfl rfl
  generalize (u * 4294967296 + d1) / Z = F1 at *
  generalize (u * 4294967296 + d1) % Z = v at *
  obtain ⟨t1, t2, t3, t4⟩ := start v hv0 hv1
  rw [nz, t1, t2, loop24_eq _ Z S a1 a0 d0 F1 v b1.1 b1.2 b0.1 b0.2 hv0 (by omega) hd0.1 hd0.2 (FUEL - 1) (v / a1) (v % a1) (by have := Int.mul_ediv_add_emod v a1; rw [Int.mul_comm] at this; omega)
    (Int.emod_nonneg _ (by omega)) (by have := Int.emod_lt_of_pos v (show 0 < a1 by omega); omega) t3 t4 ((digit_first (by omega) b0.1 hd0.2).resolve_right (by omega)) (fuel v)]
  simp only [Option.bind_some]
  rw [← hYs, rest v d0 hv0 hv1 hd0.1 hd0.2]
  have f0 : (v * 4294967296 + d0) / Z < 4294967296 := digit_lt hd0.2 hv1 (by omega)
  have f0' : 0 ≤ (v * 4294967296 + d0) / Z := Int.ediv_nonneg (by omega) (by omega)
  rw [Int.toNat_natCast, show Min.min S 64 = S by omega, Int.fdiv_eq_ediv_of_nonneg _ (by omega), kn'.2, wu_id (F1 * 4294967296) (by omega) (by omega), wu_id _ (by omega) (by omega), kn'.1]
  have g1 : decide ((0 : Int) ≤ (S : Int)) = true := by simp
  have g2 : decide ((0 : Int) ≤ 64 - (S : Int)) = true := by simp; omega
  simp only [g1, g2, cond_true]
end Go.Lift.S17
