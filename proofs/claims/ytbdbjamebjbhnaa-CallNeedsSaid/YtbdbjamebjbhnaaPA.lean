import Derived.Test.YtbdbjamebjbhnaaLCtx
import Derived.Laws.MathBits
import Derived.Laws.Bits64
set_option linter.all false
/- ARITHMETIC: what the machine's operations are. -/
set_option linter.unusedSimpArgs false
set_option linter.unusedVariables false
namespace Go.Lift.Ar
open Go

theorem wu_id (n : Int) (h0 : 0 ≤ n) (h1 : n < 18446744073709551616) : wu n = n := by
  simp [wu, wi, w8, IntKind.wrap, IntKind.signed, IntKind.bits]
  omega

theorem wu_mod (n : Int) : wu n = n % 18446744073709551616 := by
  simp [wu, wi, w8, IntKind.wrap, IntKind.signed, IntKind.bits]

theorem wi_id (n : Int) (h0 : -9223372036854775808 ≤ n) (h1 : n < 9223372036854775808) : wi n = n := by
  simp [wu, wi, w8, IntKind.wrap, IntKind.signed, IntKind.bits]
  omega

theorem w8_mod (n : Int) : w8 n = n % 256 := by
  simp [wu, wi, w8, IntKind.wrap, IntKind.signed, IntKind.bits]

theorem andLow (z : Int) (h0 : 0 ≤ z) (h1 : z < 18446744073709551616) : wu (↑(BitVec.toNat (BitVec.ofInt 64 z &&& BitVec.ofInt 64 4294967295)) : Int) = z % 4294967296 := by
  have := and_low32 z h0 h1
  exact this

theorem fd32 (x : Int) : Int.fdiv x (2 ^ 32) = x / 4294967296 := by
  rw [Int.fdiv_eq_ediv_of_nonneg _ (by decide)]; rfl

theorem divMod {p d q r : Int} (h : p = d * q + r) (h0 : 0 ≤ r) (h1 : r < d) : p / d = q ∧ p % d = r := by
  subst h
  constructor
  · rw [Int.add_comm, Int.add_mul_ediv_left _ _ (by omega), Int.ediv_eq_zero_of_lt h0 h1]; omega
  · rw [Int.mul_add_emod_self_left]; exact Int.emod_eq_of_lt h0 h1

theorem fd16 (x : Int) : Int.fdiv x (2 ^ 16) = x / 65536 := by
  rw [Int.fdiv_eq_ediv_of_nonneg _ (by decide)]; rfl

theorem fd8 (x : Int) : Int.fdiv x (2 ^ 8) = x / 256 := by
  rw [Int.fdiv_eq_ediv_of_nonneg _ (by decide)]; rfl

theorem bitLen_shift' (x b n : Int) (k : Nat) (h0 : 0 ≤ x) (hb : b = 2 ^ k) (hn : n = k) (h : 0 < x / b) : ((bitLen x.toNat : Nat) : Int) = n + ((bitLen (x / b).toNat : Nat) : Int) := by
  obtain ⟨X, rfl⟩ := Int.eq_ofNat_of_zero_le h0
  have e : b = ((2 ^ k : Nat) : Int) := by rw [hb, Int.natCast_pow]; rfl
  rw [e] at h ⊢
  rw [← Int.natCast_ediv] at h ⊢
  rw [Int.toNat_natCast, Int.toNat_natCast, bitLen_shift X k (by omega), hn]
  rw [Int.natCast_add]

theorem orSum (a b : Int) (s : Nat) (ha : 0 ≤ a) (hb : 0 ≤ b) (hs : b < 2 ^ s) (hlt : a * 2 ^ s + b < 18446744073709551616) :
    wu (↑(BitVec.toNat (BitVec.ofInt 64 (a * 2 ^ s) ||| BitVec.ofInt 64 b)) : Int) = a * 2 ^ s + b := by
  obtain ⟨a, rfl⟩ := Int.eq_ofNat_of_zero_le ha
  obtain ⟨b, rfl⟩ := Int.eq_ofNat_of_zero_le hb
  have hp : (2 : Int) ^ s = ((2 ^ s : Nat) : Int) := by rw [Int.natCast_pow]; rfl
  rw [hp] at hs hlt ⊢
  rw [← Int.natCast_mul] at hlt ⊢
  have hs' : b < 2 ^ s := by omega
  have hlt' : a * 2 ^ s + b < 18446744073709551616 := by omega
  have e64 : (2 : Nat) ^ 64 = 18446744073709551616 := rfl
  rw [BitVec.ofInt_natCast, BitVec.ofInt_natCast, BitVec.toNat_or, BitVec.toNat_ofNat, BitVec.toNat_ofNat, e64,
    Nat.mod_eq_of_lt (show a * 2 ^ s < 18446744073709551616 by omega), Nat.mod_eq_of_lt (show b < 18446744073709551616 by omega)]
  have := Nat.two_pow_add_eq_or_of_lt hs' a
  rw [Nat.mul_comm a, ← this, wu_id _ (by omega) (by rw [Nat.mul_comm]; omega)]
  rw [Int.natCast_add]

/-- Knuth's digit -/
theorem digit {yn1 yn0 u d q r : Int} (h1 : 0 < yn1) (h0 : 0 ≤ yn0) (hu : u = q * yn1 + r)
    (hle : (u * 4294967296 + d) / (yn1 * 4294967296 + yn0) ≤ q) (ht : q * yn0 ≤ r * 4294967296 + d) :
    (u * 4294967296 + d) / (yn1 * 4294967296 + yn0) = q := by
  have hY : 0 < yn1 * 4294967296 + yn0 := by omega
  refine Int.le_antisymm hle ((Int.le_ediv_iff_mul_le hY).2 ?_)
  have e : q * (yn1 * 4294967296 + yn0) = q * yn1 * 4294967296 + q * yn0 := by grind
  rw [e, hu]
  generalize q * yn1 = A at *
  generalize q * yn0 = C at *
  omega

theorem digit_next {yn1 yn0 u d q r : Int} (h1 : 0 < yn1) (h0 : 0 ≤ yn0) (hu : u = q * yn1 + r)
    (ht : r * 4294967296 + d < q * yn0) :
    (u * 4294967296 + d) / (yn1 * 4294967296 + yn0) ≤ q - 1 := by
  have hY : 0 < yn1 * 4294967296 + yn0 := by omega
  have : (u * 4294967296 + d) / (yn1 * 4294967296 + yn0) < q := by
    refine (Int.ediv_lt_iff_lt_mul hY).2 ?_
    have e : q * (yn1 * 4294967296 + yn0) = q * yn1 * 4294967296 + q * yn0 := by grind
    rw [e, hu]
    generalize q * yn1 = A at *
    generalize q * yn0 = C at *
    omega
  omega

theorem digit_lt {Y u d : Int} (hd1 : d < 4294967296) (hu : u < Y) (hY : 0 < Y) :
    (u * 4294967296 + d) / Y < 4294967296 := by
  refine (Int.ediv_lt_iff_lt_mul hY).2 ?_
  have : (u + 1) * 4294967296 ≤ Y * 4294967296 := by omega
  omega

theorem digit_first {yn1 yn0 u d : Int} (h1 : 0 < yn1) (h0 : 0 ≤ yn0) (hd' : d < 4294967296) :
    (u * 4294967296 + d) / (yn1 * 4294967296 + yn0) ≤ u / yn1 ∨ u < 0 := by
  rcases Int.lt_or_le u 0 with hu | hu
  · exact .inr hu
  left
  have hY : 0 < yn1 * 4294967296 + yn0 := by omega
  have : (u * 4294967296 + d) / (yn1 * 4294967296 + yn0) < u / yn1 + 1 := by
    refine (Int.ediv_lt_iff_lt_mul hY).2 ?_
    have e := Int.lt_mul_of_ediv_lt h1 (show u / yn1 < u / yn1 + 1 by omega)
    have hq : 0 ≤ u / yn1 := Int.ediv_nonneg hu (by omega)
    have e2 : (u / yn1 + 1) * (yn1 * 4294967296 + yn0) = (u / yn1 + 1) * yn1 * 4294967296 + (u / yn1 + 1) * yn0 := by grind
    have e3 : 0 ≤ (u / yn1 + 1) * yn0 := Int.mul_nonneg (by omega) h0
    omega
  omega

theorem knuth {N Y P F1 F0 u21 rem A d0 : Int} (hY : 0 < Y) (hP : 0 < P) (hN : N * P = A * 4294967296 + d0)
    (h1 : F1 = A / (Y * P)) (h2 : u21 = A % (Y * P)) (h3 : F0 = (u21 * 4294967296 + d0) / (Y * P)) (h4 : rem = (u21 * 4294967296 + d0) % (Y * P)) :
    F1 * 4294967296 + F0 = N / Y ∧ rem / P = N % Y := by
  have hYP : 0 < Y * P := Int.mul_pos hY hP
  have e1 := Int.mul_ediv_add_emod A (Y * P)
  have e2 := Int.mul_ediv_add_emod (u21 * 4294967296 + d0) (Y * P)
  rw [← h1, ← h2] at e1
  rw [← h3, ← h4] at e2
  have l := Int.emod_lt_of_pos (u21 * 4294967296 + d0) hYP
  have l0 := Int.emod_nonneg (u21 * 4294967296 + d0) (show Y * P ≠ 0 by omega)
  rw [← h4] at l l0
  have e3 : N * P = Y * P * (F1 * 4294967296 + F0) + rem := by rw [hN, ← e1]; grind
  have e4 : N * P / (Y * P) = F1 * 4294967296 + F0 := by
    rw [e3, Int.add_comm, Int.add_mul_ediv_left _ _ (by omega), Int.ediv_eq_zero_of_lt l0 l]; omega
  have e5 : N * P % (Y * P) = rem := by
    rw [e3, Int.mul_add_emod_self_left]
    exact Int.emod_eq_of_lt l0 l
  rw [Int.mul_ediv_mul_of_pos_left _ _ hP] at e4
  rw [Int.mul_comm N P, Int.mul_comm Y P, Int.mul_emod_mul_of_pos _ _ hP, Int.mul_comm] at e5
  refine ⟨e4.symm, ?_⟩
  rw [← e5, Int.mul_ediv_cancel _ (by omega)]
end Go.Lift.Ar
