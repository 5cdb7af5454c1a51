import Derived.Test.YtnbknlaejebjbaaPK17
set_option linter.all false
/- Merging two sorted blocks: the searches. -/
set_option linter.unusedSimpArgs false
set_option linter.unusedVariables false
namespace Go.Lift.S17
open Go Go.Lift Go.Lift.Ar

theorem half (x y : Nat) (h : x + y ≤ 4611686018427387904) : wi (Int.fdiv (wu (wi ((x : Int) + (y : Int)))) (2 ^ (1 : Nat))) = (((x + y) / 2 : Nat) : Int) := by
  rw [wi_id ((x : Int) + y) (by omega) (by omega), wu_id _ (by omega) (by omega), Int.fdiv_eq_ediv_of_nonneg _ (by decide), wi_id _ (by omega) (by omega)]
  omega

theorem bef_trans {R : List Int} {x y z : Int} (h1 : bef R x y) (h2 : bef R y z) : bef R x z := by unfold bef at *; omega

theorem less_no {R : List Int} {x y : Int} (h : ¬ wt R y < wt R x) (hxy : y < x) : bef R y x := by unfold bef; omega

def Sor (R d : List Int) (x y : Nat) : Prop := ∀ p q, x ≤ p → p < q → q < y → bef R (d.getD p 0) (d.getD q 0)
def Crs (d : List Int) (a m b : Nat) : Prop := ∀ p q, a ≤ p → p < m → m ≤ q → q < b → d.getD p 0 < d.getD q 0
theorem Sor.le {R d : List Int} {x y : Nat} (h : Sor R d x y) {p q : Nat} (hp : x ≤ p) (hpq : p ≤ q) (hq : q < y) {z : Int} : (bef R (d.getD q 0) z → bef R (d.getD p 0) z) ∧ (bef R z (d.getD p 0) → bef R z (d.getD q 0)) := by
  by_cases e : p = q
  · subst e; exact ⟨fun h => h, fun h => h⟩
  · have := h p q hp (by omega) hq
    exact ⟨fun h => bef_trans this h, fun h => bef_trans h this⟩

theorem loop3_is (rot : Int → Int → Int → (List Int × Unit) → List Int → Option (List Int)) (sm : Int → Int → Int → (List Int × Unit) → List Int → Option (List Int)) (R d : List Int) (a m b : Nat) (ham : a < m) (hb : b ≤ d.length) (hN : d.length ≤ 2305843009213693952) (hin : InB R d) (hS : Sor R d m b) (hC : Crs d a m b) (ha1 : m = a + 1) :
    ∀ (k i j : Nat), j - i < k → m ≤ i → i ≤ j → j ≤ b → (∀ q : Nat, m ≤ q → q < i → bef R (d.getD q 0) (d.getD a 0)) → (∀ q : Nat, j ≤ q → q < b → bef R (d.getD a 0) (d.getD q 0)) →
      ∃ r : Nat, symMerge_loop3 share2 rot sm k (a : Int) (R, ()) (i : Int) (j : Int) d = some ((a : Int), (r : Int), d) ∧ m ≤ r ∧ r ≤ b ∧ (∀ q : Nat, m ≤ q → q < r → bef R (d.getD q 0) (d.getD a 0)) ∧ (∀ q : Nat, r ≤ q → q < b → bef R (d.getD a 0) (d.getD q 0)) := by
  intro k
  induction k with
  | zero => intro i j h; omega
  | succ k ih =>
    intro i j hk hmi hij hjb hlo hhi
    unfold symMerge_loop3 symMerge_loop3_step
    by_cases hlt : i < j
    · rw [decide_eq_true (show (i : Int) < (j : Int) by omega), half i j (by omega), Int.toNat_natCast, Int.toNat_natCast, Nat.zero_add, Nat.zero_add, inb ((i + j) / 2) d.length (by omega), inb a d.length (by omega)]
      rw [share2_eq R _ _ (hin.getD (by omega)) (hin.getD (by omega))]
      simp only [cond_true, Option.bind_some, sgn_neg]
      have hc := hC a ((i + j) / 2) (Nat.le_refl _) ham (by omega) (by omega)
      by_cases hw : wt R (d.getD a 0) < wt R (d.getD ((i + j) / 2) 0)
      · rw [decide_eq_true hw, cond_true]
        have e : wi ((((i + j) / 2 : Nat) : Int) + 1) = (((i + j) / 2 + 1 : Nat) : Int) := wi_id _ (by omega) (by omega)
        rw [e]
        refine ih ((i + j) / 2 + 1) j (by omega) (by omega) (by omega) hjb (fun q h1 h2 => ?_) hhi
        exact (hS.le h1 (show q ≤ (i + j) / 2 by omega) (by omega)).1 (.inl hw)
      · rw [decide_eq_false hw, cond_false]
        refine ih i ((i + j) / 2) (by omega) hmi (by omega) (by omega) hlo (fun q h1 h2 => ?_)
        exact (hS.le (show m ≤ (i + j) / 2 by omega) h1 h2).2 (less_no hw hc)
    · rw [decide_eq_false (show ¬ (i : Int) < (j : Int) by omega), cond_false]
      exact ⟨i, rfl, hmi, by omega, hlo, fun q h1 h2 => hhi q (by omega) h2⟩

theorem loop15_is (rot : Int → Int → Int → (List Int × Unit) → List Int → Option (List Int)) (sm : Int → Int → Int → (List Int × Unit) → List Int → Option (List Int)) (R d : List Int) (a m b : Nat) (ham : a < m) (hb : m < d.length) (hN : d.length ≤ 2305843009213693952) (hin : InB R d) (hS : Sor R d a m) (hC : Crs d a m (m + 1)) :
    ∀ (k i j : Nat), j - i < k → a ≤ i → i ≤ j → j ≤ m → (∀ q : Nat, a ≤ q → q < i → bef R (d.getD q 0) (d.getD m 0)) → (∀ q : Nat, j ≤ q → q < m → bef R (d.getD m 0) (d.getD q 0)) →
      ∃ r : Nat, symMerge_loop15 share2 rot sm k (m : Int) (R, ()) (i : Int) (j : Int) d = some ((m : Int), (r : Int), d) ∧ a ≤ r ∧ r ≤ m ∧ (∀ q : Nat, a ≤ q → q < r → bef R (d.getD q 0) (d.getD m 0)) ∧ (∀ q : Nat, r ≤ q → q < m → bef R (d.getD m 0) (d.getD q 0)) := by
  intro k
  induction k with
  | zero => intro i j h; omega
  | succ k ih =>
    intro i j hk hmi hij hjb hlo hhi
    unfold symMerge_loop15 symMerge_loop15_step
    by_cases hlt : i < j
    · rw [decide_eq_true (show (i : Int) < (j : Int) by omega), half i j (by omega), Int.toNat_natCast, Int.toNat_natCast, Nat.zero_add, Nat.zero_add, inb ((i + j) / 2) d.length (by omega), inb m d.length (by omega)]
      rw [share2_eq R _ _ (hin.getD (by omega)) (hin.getD (by omega))]
      simp only [cond_true, Option.bind_some, sgn_neg]
      have hc := hC ((i + j) / 2) m (by omega) (by omega) (Nat.le_refl _) (by omega)
      by_cases hw : wt R (d.getD ((i + j) / 2) 0) < wt R (d.getD m 0)
      · rw [decide_eq_true hw, Bool.not_true, cond_false]
        refine ih i ((i + j) / 2) (by omega) hmi (by omega) (by omega) hlo (fun q h1 h2 => ?_)
        exact (hS.le (show a ≤ (i + j) / 2 by omega) h1 h2).2 (.inl hw)
      · rw [decide_eq_false hw, Bool.not_false, cond_true]
        have e : wi ((((i + j) / 2 : Nat) : Int) + 1) = (((i + j) / 2 + 1 : Nat) : Int) := wi_id _ (by omega) (by omega)
        rw [e]
        refine ih ((i + j) / 2 + 1) j (by omega) (by omega) (by omega) hjb (fun q h1 h2 => ?_) hhi
        exact (hS.le h1 (show q ≤ (i + j) / 2 by omega) (by omega)).1 (less_no hw hc)
    · rw [decide_eq_false (show ¬ (i : Int) < (j : Int) by omega), cond_false]
      exact ⟨i, rfl, hmi, by omega, hlo, fun q h1 h2 => hhi q (by omega) h2⟩

theorem loop33_is (rot : Int → Int → Int → (List Int × Unit) → List Int → Option (List Int)) (sm : Int → Int → Int → (List Int × Unit) → List Int → Option (List Int)) (R d : List Int) (a m b mid n s0 r0 P : Nat) (hb : b ≤ d.length) (hN : d.length ≤ 2305843009213693952) (hin : InB R d) (hS1 : Sor R d a m) (hS2 : Sor R d m b) (hC : Crs d a m b)
    (hs0 : a ≤ s0) (hr0 : r0 ≤ m) (hP1 : ∀ c, s0 ≤ c → c < r0 → m + c ≤ P ∧ P < b + c) :
    ∀ (k st r : Nat), r - st < k → s0 ≤ st → st ≤ r → r ≤ r0 → (∀ c : Nat, s0 ≤ c → c < st → bef R (d.getD c 0) (d.getD (P - c) 0)) → (∀ c : Nat, r ≤ c → c < r0 → bef R (d.getD (P - c) 0) (d.getD c 0)) →
      ∃ t : Nat, symMerge_loop33 share2 rot sm k (a : Int) (m : Int) (b : Int) (R, ()) (mid : Int) (n : Int) (st : Int) (r : Int) (P : Int) d = some ((a : Int), (m : Int), (b : Int), (R, ()), (mid : Int), (n : Int), (t : Int), d) ∧ s0 ≤ t ∧ t ≤ r0 ∧ (∀ c : Nat, s0 ≤ c → c < t → bef R (d.getD c 0) (d.getD (P - c) 0)) ∧ (∀ c : Nat, t ≤ c → c < r0 → bef R (d.getD (P - c) 0) (d.getD c 0)) := by
  intro k
  induction k with
  | zero => intro i j h; omega
  | succ k ih =>
    intro i j hk hmi hij hjb hlo hhi
    unfold symMerge_loop33 symMerge_loop33_step
    by_cases hlt : i < j
    · have hPc := hP1 ((i + j) / 2) (by omega) (by omega)
      have e0 : wi ((P : Int) - (((i + j) / 2 : Nat) : Int)) = ((P - (i + j) / 2 : Nat) : Int) := by rw [wi_id _ (by omega) (by omega)]; omega
      rw [decide_eq_true (show (i : Int) < (j : Int) by omega), half i j (by omega), e0, Int.toNat_natCast, Int.toNat_natCast, Nat.zero_add, Nat.zero_add, inb ((i + j) / 2) d.length (by omega), inb (P - (i + j) / 2) d.length (by omega)]
      rw [share2_eq R _ _ (hin.getD (by omega)) (hin.getD (by omega))]
      simp only [cond_true, Option.bind_some, sgn_neg]
      have hc := hC ((i + j) / 2) (P - (i + j) / 2) (by omega) (by omega) (by omega) (by omega)
      by_cases hw : wt R (d.getD ((i + j) / 2) 0) < wt R (d.getD (P - (i + j) / 2) 0)
      · rw [decide_eq_true hw, Bool.not_true, cond_false]
        refine ih i ((i + j) / 2) (by omega) hmi (by omega) (by omega) hlo (fun c h1 h2 => ?_)
        have hcc := hP1 c (by omega) h2
        have h3 : bef R (d.getD (P - (i + j) / 2) 0) (d.getD c 0) := (hS1.le (show a ≤ (i + j) / 2 by omega) h1 (by omega)).2 (.inl hw)
        exact (hS2.le (show m ≤ P - c by omega) (show P - c ≤ P - (i + j) / 2 by omega) (by omega)).1 h3
      · rw [decide_eq_false hw, Bool.not_false, cond_true]
        have e : wi ((((i + j) / 2 : Nat) : Int) + 1) = (((i + j) / 2 + 1 : Nat) : Int) := wi_id _ (by omega) (by omega)
        rw [e]
        refine ih ((i + j) / 2 + 1) j (by omega) (by omega) (by omega) hjb (fun c h1 h2 => ?_) hhi
        have hcc := hP1 c h1 (by omega)
        have h3 : bef R (d.getD ((i + j) / 2) 0) (d.getD (P - c) 0) := (hS2.le (show m ≤ P - (i + j) / 2 by omega) (show P - (i + j) / 2 ≤ P - c by omega) (by omega)).2 (less_no hw hc)
        exact (hS1.le (show a ≤ c by omega) (show c ≤ (i + j) / 2 by omega) (by omega)).1 h3
    · rw [decide_eq_false (show ¬ (i : Int) < (j : Int) by omega), cond_false]
      exact ⟨i, rfl, hmi, by omega, hlo, fun q h1 h2 => hhi q (by omega) h2⟩

/-- The first one goes to where it belongs. -/
theorem loop9_is (rot : Int → Int → Int → (List Int × Unit) → List Int → Option (List Int)) (sm : Int → Int → Int → (List Int × Unit) → List Int → Option (List Int)) (N r : Nat) (hr : r ≤ N) (hN : N ≤ 2305843009213693952) :
    ∀ (k t : Nat) (d : List Int), r < t + k → t < r → d.length = N →
      ∃ d', symMerge_loop9 share2 rot sm k (r : Int) (t : Int) d = some d' ∧ d'.length = N ∧ d'.Perm d ∧ (∀ p, t ≤ p → p + 1 < r → d'.getD p 0 = d.getD (p + 1) 0) ∧ d'.getD (r - 1) 0 = d.getD t 0 ∧ (∀ p, p < t ∨ r ≤ p → d'.getD p 0 = d.getD p 0) := by
  intro k
  induction k with
  | zero => intro t d h h1; omega
  | succ k ih =>
    intro t d hk htr hd
    unfold symMerge_loop9 symMerge_loop9_step
    have e1 : wi ((r : Int) - 1) = ((r - 1 : Nat) : Int) := by rw [wi_id _ (by omega) (by omega)]; omega
    have e2 : wi ((t : Int) + 1) = ((t + 1 : Nat) : Int) := wi_id _ (by omega) (by omega)
    rw [e1, e2]
    by_cases h : t < r - 1
    · rw [decide_eq_true (show (t : Int) < ((r - 1 : Nat) : Int) by omega), Int.toNat_natCast, Int.toNat_natCast, Nat.zero_add, Nat.zero_add, List.length_set, inb (t + 1) d.length (by omega), inb t d.length (by omega)]
      simp only [cond_true]
      have hsw : ∀ p, (swp d t (t + 1)).getD p 0 = if p = t + 1 then d.getD t 0 else if p = t then d.getD (t + 1) 0 else d.getD p 0 := fun p => swp_getD d t (t + 1) p (by omega) (by omega)
      obtain ⟨d', g1, g2, g3, g4, g5, g6⟩ := ih (t + 1) (swp d t (t + 1)) (by omega) (by omega) (by rw [swp_length, hd])
      refine ⟨d', g1, g2, g3.trans (swp_perm _ _ _ (by omega) (by omega)), fun p h1 h2 => ?_, ?_, fun p h1 => ?_⟩
      · by_cases hp : p = t
        · rw [g6 p (.inl (by omega)), hsw, if_neg (by omega), if_pos hp]; exact getD_ix (by omega)
        · rw [g4 p (by omega) h2, hsw, if_neg (by omega), if_neg (by omega)]
      · rw [g5, hsw, if_pos rfl]
      · rw [g6 p (by omega), hsw, if_neg (by omega), if_neg (by omega)]
    · rw [decide_eq_false (show ¬ (t : Int) < ((r - 1 : Nat) : Int) by omega), cond_false]
      exact ⟨d, rfl, hd, List.Perm.refl _, fun p h1 h2 => by omega, getD_ix (by omega), fun p _ => rfl⟩

/-- The last one goes to where it belongs. -/
theorem loop21_is (rot : Int → Int → Int → (List Int × Unit) → List Int → Option (List Int)) (sm : Int → Int → Int → (List Int × Unit) → List Int → Option (List Int)) (N r : Nat) (hN : N ≤ 2305843009213693952) :
    ∀ (k t : Nat) (d : List Int), t < r + k → r ≤ t → t < N → d.length = N →
      ∃ d', symMerge_loop21 share2 rot sm k (r : Int) (t : Int) d = some d' ∧ d'.length = N ∧ d'.Perm d ∧ (∀ p, r < p → p ≤ t → d'.getD p 0 = d.getD (p - 1) 0) ∧ d'.getD r 0 = d.getD t 0 ∧ (∀ p, p < r ∨ t < p → d'.getD p 0 = d.getD p 0) := by
  intro k
  induction k with
  | zero => intro t d h h1; omega
  | succ k ih =>
    intro t d hk htr htN hd
    unfold symMerge_loop21 symMerge_loop21_step
    by_cases h : r < t
    · have e1 : wi ((t : Int) - 1) = ((t - 1 : Nat) : Int) := by rw [wi_id _ (by omega) (by omega)]; omega
      rw [decide_eq_true (show (t : Int) > (r : Int) by omega), e1, Int.toNat_natCast, Int.toNat_natCast, Nat.zero_add, Nat.zero_add, List.length_set, inb (t - 1) d.length (by omega), inb t d.length (by omega)]
      simp only [cond_true]
      have hsw : ∀ p, (swp d t (t - 1)).getD p 0 = if p = t - 1 then d.getD t 0 else if p = t then d.getD (t - 1) 0 else d.getD p 0 := fun p => swp_getD d t (t - 1) p (by omega) (by omega)
      obtain ⟨d', g1, g2, g3, g4, g5, g6⟩ := ih (t - 1) (swp d t (t - 1)) (by omega) (by omega) (by omega) (by rw [swp_length, hd])
      refine ⟨d', g1, g2, g3.trans (swp_perm _ _ _ (by omega) (by omega)), fun p h1 h2 => ?_, ?_, fun p h1 => ?_⟩
      · by_cases hp : p = t
        · rw [g6 p (.inr (by omega)), hsw, if_neg (by omega), if_pos hp]; exact getD_ix (by omega)
        · rw [g4 p h1 (by omega), hsw, if_neg (by omega), if_neg (by omega)]
      · rw [g5, hsw, if_pos rfl]
      · rw [g6 p (by omega), hsw, if_neg (by omega), if_neg (by omega)]
    · rw [decide_eq_false (show ¬ (t : Int) > (r : Int) by omega), cond_false]
      exact ⟨d, rfl, hd, List.Perm.refl _, fun p h1 h2 => by omega, getD_ix (by omega), fun p _ => rfl⟩
end Go.Lift.S17
