import Derived.Test.YtnbknlaejebjbaaPR17
set_option linter.all false
/- Sorting: few elements, by insertion. -/
set_option linter.unusedSimpArgs false
set_option linter.unusedVariables false
namespace Go.Lift.S17
open Go Go.Lift Go.Lift.Ar

def sgn (x y : Int) : Int := if x < y then -1 else if x > y then 1 else 0
theorem cmpi_eq (x y : Int) : cmpi x y = some (sgn x y) := by
  unfold cmpi cmpi_body isNaN isNaN_body sgn
  simp only [Option.bind_some, bne_self_eq_false, cond_false]
  by_cases h1 : x < y <;> by_cases h2 : x > y <;> simp only [h1, h2, decide_true, decide_false, cond_true, cond_false, if_true, if_false]

/-- The weight of an element. -/
def wt (R : List Int) (v : Int) : Int := R.getD v.toNat 0
/-- u comes before v. -/
def bef (R : List Int) (u v : Int) : Prop := wt R v < wt R u ∨ (wt R u = wt R v ∧ u < v)

theorem share2_eq (R : List Int) (u v : Int) (hu : 0 ≤ u ∧ u < R.length) (hv : 0 ≤ v ∧ v < R.length) : share2 u v R = some (sgn (wt R v) (wt R u)) := by
  unfold share2 share2_body
  have e1 : (decide (0 ≤ v) && decide (v < (R.length : Int))) = true := by simp; omega
  have e2 : (decide (0 ≤ u) && decide (u < (R.length : Int))) = true := by simp; omega
  rw [e1, e2]
  simp only [cond_true, cmpi_eq, Option.bind_some]
  rfl

theorem sgn_neg (x y : Int) : decide (sgn x y < 0) = decide (x < y) := by
  unfold sgn
  by_cases h1 : x < y <;> by_cases h2 : x > y <;> simp [h1, h2]

/-- Two elements change places. -/
def swp (d : List Int) (i j : Nat) : List Int := (d.set i (d.getD j 0)).set j (d.getD i 0)
theorem swp_length (d : List Int) (i j : Nat) : (swp d i j).length = d.length := by simp [swp]
theorem swp_perm (d : List Int) (i j : Nat) (hi : i < d.length) (hj : j < d.length) : (swp d i j).Perm d := by
  unfold swp
  rw [List.getD_eq_getElem?_getD, List.getD_eq_getElem?_getD, List.getElem?_eq_getElem hi, List.getElem?_eq_getElem hj]
  exact List.set_set_perm hi hj
theorem swp_getD (d : List Int) (i j p : Nat) (hi : i < d.length) (hj : j < d.length) : (swp d i j).getD p 0 = if p = j then d.getD i 0 else if p = i then d.getD j 0 else d.getD p 0 := by
  unfold swp
  rw [getD_set, getD_set]
  simp only [List.length_set]
  by_cases h1 : p = j
  · subst h1; rw [if_pos ⟨rfl, hj⟩, if_pos rfl]
  · rw [if_neg (fun h => h1 h.1.symm), if_neg h1]
    by_cases h2 : p = i
    · subst h2; rw [if_pos ⟨rfl, hi⟩, if_pos rfl]
    · rw [if_neg (fun h => h2 h.1.symm), if_neg h2]

def InB (R d : List Int) : Prop := ∀ x, x ∈ d → 0 ≤ x ∧ x < R.length
theorem InB.getD {R d : List Int} (h : InB R d) {p : Nat} (hp : p < d.length) : 0 ≤ d.getD p 0 ∧ d.getD p 0 < R.length := h _ (getD_mem d p 0 hp)

theorem ins_inner (R : List Int) (a i : Nat) (b : Int) (n : Nat) (hi : i < n) (hn : n ≤ 9223372036854775807) :
    ∀ (k j : Nat) (d : List Int), j < k + a → a ≤ j → j ≤ i → d.length = n → InB R d →
      (∀ p q, a ≤ p → p < q → q ≤ i → p ≠ j → q ≠ j → bef R (d.getD p 0) (d.getD q 0)) → (∀ q, j < q → q ≤ i → bef R (d.getD j 0) (d.getD q 0)) → (∀ p, a ≤ p → p < j → d.getD p 0 < d.getD j 0) →
      ∃ d', insertion_loop4 share2 k (a : Int) b (R, ()) (i : Int) (j : Int) d = some ((a : Int), b, (R, ()), (i : Int), d') ∧ d'.length = n ∧ d'.Perm d ∧ (∀ p q, a ≤ p → p < q → q ≤ i → bef R (d'.getD p 0) (d'.getD q 0)) ∧
        (∀ q, q < a ∨ i < q → d'.getD q 0 = d.getD q 0) ∧ (∀ p, a ≤ p → p ≤ i → ∃ q, a ≤ q ∧ q ≤ i ∧ d'.getD p 0 = d.getD q 0) := by
  intro k
  induction k with
  | zero => intro j d h h1 h2; omega
  | succ k ih =>
    intro j d hk haj hji hd hin hS hU hV
    unfold insertion_loop4 insertion_loop4_step
    by_cases hja : a < j
    · have e1 : wi ((j : Int) - 1) = ((j - 1 : Nat) : Int) := by rw [wi_id _ (by omega) (by omega)]; omega
      have hgt : decide ((j : Int) > (a : Int)) = true := decide_eq_true (by omega)
      rw [e1, Int.toNat_natCast, Int.toNat_natCast, Nat.zero_add, Nat.zero_add, hgt, inb j d.length (by omega), inb (j - 1) d.length (by omega)]
      have hj0 := hin.getD (show j < d.length by omega)
      have hj1 := hin.getD (show j - 1 < d.length by omega)
      have hV1 := hV (j - 1) (by omega) (by omega)
      rw [share2_eq R _ _ hj0 hj1]
      simp only [cond_true, Option.bind_some, sgn_neg]
      by_cases hc : wt R (d.getD (j - 1) 0) < wt R (d.getD j 0)
      · rw [decide_eq_true hc]
        simp only [cond_true]
        have hl2 : (d.set j (d.getD (j - 1) 0)).length = d.length := by simp
        rw [hl2, inb (j - 1) d.length (by omega)]
        simp only [cond_true]
        have hsw : ∀ p, (swp d j (j - 1)).getD p 0 = if p = j - 1 then d.getD j 0 else if p = j then d.getD (j - 1) 0 else d.getD p 0 := fun p => swp_getD d j (j - 1) p (by omega) (by omega)
        have hpm := swp_perm d j (j - 1) (by omega) (by omega)
        obtain ⟨d', g1, g2, g3, g4, g5, g6⟩ := ih (j - 1) (swp d j (j - 1)) (by omega) (by omega) (by omega) (by rw [swp_length, hd]) (fun x hx => hin x (hpm.mem_iff.1 hx)) (fun p q h1 h2 h3 h4 h5 => by
            rw [hsw, hsw, if_neg h4, if_neg h5]
            by_cases hp : p = j
            · rw [if_pos hp, if_neg (by omega)]
              exact hS (j - 1) q (by omega) (by omega) h3 (by omega) (by omega)
            · rw [if_neg hp]
              by_cases hq : q = j
              · rw [if_pos hq]
                exact hS p (j - 1) h1 (by omega) (by omega) hp (by omega)
              · rw [if_neg hq]
                exact hS p q h1 h2 h3 hp hq) (fun q h1 h2 => by
            rw [hsw, if_pos rfl, hsw, if_neg (by omega)]
            by_cases hq : q = j
            · rw [if_pos hq]; exact .inl hc
            · rw [if_neg hq]; exact hU q (by omega) h2) (fun p h1 h2 => by
            rw [hsw, if_neg (by omega), if_neg (by omega), hsw, if_pos rfl]
            exact hV p h1 (by omega))
        refine ⟨d', g1, g2, g3.trans hpm, g4, fun q hq => ?_, fun p h1 h2 => ?_⟩
        · rw [g5 q hq, hsw, if_neg (by omega), if_neg (by omega)]
        · obtain ⟨q, m1, m2, m3⟩ := g6 p h1 h2
          rw [hsw] at m3
          by_cases hq1 : q = j - 1
          · rw [if_pos hq1] at m3; exact ⟨j, haj, hji, m3⟩
          · rw [if_neg hq1] at m3
            by_cases hq2 : q = j
            · rw [if_pos hq2] at m3; exact ⟨j - 1, by omega, by omega, m3⟩
            · rw [if_neg hq2] at m3; exact ⟨q, m1, m2, m3⟩
      · rw [decide_eq_false hc]
        simp only [cond_false]
        refine ⟨d, rfl, hd, List.Perm.refl _, fun p q h1 h2 h3 => ?_, fun q _ => rfl, fun p h1 h2 => ⟨p, h1, h2, rfl⟩⟩
        have hb : bef R (d.getD (j - 1) 0) (d.getD j 0) := by
          rcases Int.lt_or_le (wt R (d.getD j 0)) (wt R (d.getD (j - 1) 0)) with h | h
          · exact .inl h
          · exact .inr ⟨by omega, hV1⟩
        by_cases hp : p = j
        · subst hp; exact hU q h2 h3
        · by_cases hq : q = j
          · subst hq
            by_cases hpj : p = q - 1
            · rw [hpj]; exact hb
            · have h4 := hS p (q - 1) h1 (by omega) (by omega) hp (by omega)
              unfold bef at *; omega
          · exact hS p q h1 h2 h3 hp hq
    · have hja' : j = a := by omega
      have hgt : decide ((j : Int) > (a : Int)) = false := decide_eq_false (by omega)
      rw [hgt]
      simp only [cond_false, Option.bind_some]
      refine ⟨d, rfl, hd, List.Perm.refl _, fun p q h1 h2 h3 => ?_, fun q _ => rfl, fun p h1 h2 => ⟨p, h1, h2, rfl⟩⟩
      by_cases hp : p = j
      · subst hp; exact hU q h2 h3
      · exact hS p q h1 h2 h3 hp (by omega)

theorem ins_outer (R : List Int) (a b n : Nat) (hb : b ≤ n) (hn : n ≤ 9223372036854775807) :
    ∀ (k i : Nat) (d : List Int), b + 1 < i + k → a < i → i ≤ b + 1 → d.length = n → InB R d →
      (∀ p q, a ≤ p → p < q → q < i → bef R (d.getD p 0) (d.getD q 0)) → (∀ p q, a ≤ p → p < q → i ≤ q → q < b → d.getD p 0 < d.getD q 0) →
      ∃ d', insertion_loop1 share2 k (a : Int) (b : Int) (R, ()) (i : Int) d = some d' ∧ d'.length = n ∧ d'.Perm d ∧ (∀ p q, a ≤ p → p < q → q < b → bef R (d'.getD p 0) (d'.getD q 0)) ∧ (∀ q, q < a ∨ b ≤ q → d'.getD q 0 = d.getD q 0) ∧ (∀ p, a ≤ p → p < b → ∃ q, a ≤ q ∧ q < b ∧ d'.getD p 0 = d.getD q 0) := by
  intro k
  induction k with
  | zero => intro i d h h1 h2; exact absurd h (by omega)
  | succ k ih =>
    intro i d hk hai hib hd hin hS hI
    unfold insertion_loop1 insertion_loop1_step
    by_cases hi : i < b
    · have hlt : decide ((i : Int) < (b : Int)) = true := decide_eq_true (by omega)
      obtain ⟨d1, g1, g2, g3, g4, g5, g6⟩ := ins_inner R a i (b : Int) n (by omega) hn FUEL i d (by have : FUEL = 18446744073709551616 := rfl; omega) (by omega) (Nat.le_refl _) hd hin (fun p q h1 h2 h3 h4 h5 => hS p q h1 h2 (by omega)) (fun q h1 h2 => by omega) (fun p h1 h2 => hI p i h1 h2 (Nat.le_refl _) hi)
      rw [hlt, g1]
      simp only [cond_true, Option.bind_some]
      rw [wi_id ((i : Int) + 1) (by omega) (by omega)]
      have hlo : ∀ p q, a ≤ p → p ≤ i → i + 1 ≤ q → q < b → d.getD p 0 < d.getD q 0 := fun p q h1 h2 h3 h4 => hI p q h1 (by omega) (by omega) h4
      -- what stood below is below still
      have hlow : ∀ p q, a ≤ p → p < q → i + 1 ≤ q → q < b → d1.getD p 0 < d1.getD q 0 := fun p q h1 h2 h3 h4 => by
        rw [g5 q (.inr (by omega))]
        by_cases hp : i < p
        · rw [g5 p (.inr hp)]; exact hI p q h1 h2 (by omega) h4
        · -- p is in the sorted part: its value is one that stood there
          obtain ⟨p', m1, m2, m3⟩ := g6 p h1 (by omega)
          rw [m3]
          exact hlo p' q m1 m2 h3 h4
      obtain ⟨d2, y1, y2, y3, y4, y5, y6⟩ := ih (i + 1) d1 (by omega) (by omega) (by omega) g2 (fun x hx => hin x (g3.mem_iff.1 hx)) (fun p q h1 h2 h3 => g4 p q h1 h2 (by omega)) hlow
      refine ⟨d2, y1, y2, y3.trans g3, y4, fun q hq => by rw [y5 q hq, g5 q (by omega)], fun p h1 h2 => ?_⟩
      obtain ⟨q, m1, m2, m3⟩ := y6 p h1 h2
      by_cases hqi : q ≤ i
      · obtain ⟨q', n1, n2, n3⟩ := g6 q m1 hqi
        exact ⟨q', n1, by omega, m3.trans n3⟩
      · exact ⟨q, m1, m2, m3.trans (g5 q (.inr (by omega)))⟩
    · have hlt : decide ((i : Int) < (b : Int)) = false := decide_eq_false (by omega)
      rw [hlt]
      simp only [cond_false]
      exact ⟨d, rfl, hd, List.Perm.refl _, fun p q h1 h2 h3 => hS p q h1 h2 (by omega), fun q _ => rfl, fun p h1 h2 => ⟨p, h1, h2, rfl⟩⟩

/-- The list 0, 1, .. -/
def idn (n : Nat) : List Int := (List.range n).map fun i : Nat => (i : Int)
theorem idn_length (n : Nat) : (idn n).length = n := by simp [idn]
theorem idn_getD (n i : Nat) (h : i < n) : (idn n).getD i 0 = (i : Int) := getD_map_range _ _ _ _ h

/-- Sorted: a permutation in which each element comes before the later ones. -/
def Srt (R d : List Int) (n : Nat) : Prop := d.length = n ∧ d.Perm (idn n) ∧ ∀ p q, p < q → q < n → bef R (d.getD p 0) (d.getD q 0)

theorem sortStable_few (R : List Int) (n : Nat) (hR : R.length = n) (hn : n < 20) : ∃ d, sortStable (R, ()) (idn n) = some d ∧ Srt R d n := by
  unfold sortStable sortStable_body stable stable_body
  have hF : FUEL = (FUEL - 1) + 1 := by decide
  have l2 : stable_loop2 share2 insertion symMerge FUEL (n : Int) (R, ()) 20 0 20 (idn n) = some ((n : Int), (R, ()), 20, 0, idn n) := by
    rw [hF]
    unfold stable_loop2 stable_loop2_step
    rw [decide_eq_false (show ¬ (20 : Int) ≤ (n : Int) by omega)]
    rfl
  rw [idn_length, l2]
  simp only [Option.bind_some]
  have hin : InB R (idn n) := fun x hx => by
    simp only [idn, List.mem_map, List.mem_range] at hx
    obtain ⟨i, hi, rfl⟩ := hx
    omega
  obtain ⟨d, g1, g2, g3, g4, _⟩ := ins_outer R 0 n n (Nat.le_refl _) (by omega) FUEL 1 (idn n) (by have : FUEL = 18446744073709551616 := rfl; omega) (by omega) (by omega) (idn_length n) hin (fun p q _ h1 h2 => by omega) (fun p q _ h1 h2 h3 => by
    rw [idn_getD _ _ (by omega), idn_getD _ _ h3]; omega)
  have g1' : insertion_loop1 share2 FUEL 0 (n : Int) (R, ()) 1 (idn n) = some d := g1
  have gi : insertion 0 (n : Int) (R, ()) (idn n) = some d := by
    unfold insertion insertion_body
    have w : wi (0 + 1) = 1 := wi_id _ (by omega) (by omega)
    rw [w, g1']
    rfl
  rw [gi]
  simp only [Option.bind_some]
  have l7 : stable_loop7 share2 insertion symMerge FUEL (n : Int) (R, ()) 20 d = some d := by
    rw [hF]
    unfold stable_loop7 stable_loop7_step
    rw [decide_eq_false (show ¬ (20 : Int) < (n : Int) by omega)]
    rfl
  rw [l7]
  exact ⟨d, rfl, g2, g3, fun p q h1 h2 => g4 p q (by omega) h1 h2⟩
end Go.Lift.S17
