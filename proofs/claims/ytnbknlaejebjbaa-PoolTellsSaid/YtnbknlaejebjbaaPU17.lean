import Derived.Test.YtnbknlaejebjbaaPJ17
import Derived.Test.YtnbknlaejebjbaaPF17
set_option linter.all false
/- pool.From and the statement PoolOwns. -/
set_option linter.unusedSimpArgs false
set_option linter.unusedVariables false
namespace Go.Lift.S17
open Go Go.Lift Go.Lift.Ar

theorem small_true : small = some true := by kernel_rfl

/-- A pool without what was taken. -/
def ds (p t : List Int) : List Int := (List.range p.length).map fun i => p.getD i 0 - t.getD i 0
theorem ds_length (p t : List Int) : (ds p t).length = p.length := by simp [ds]
theorem ds_getD (p t : List Int) (i : Nat) (h : i < p.length) : (ds p t).getD i 0 = p.getD i 0 - t.getD i 0 := getD_map_range _ _ _ _ h

theorem less_loop_is (t : List Int) (ht : t.length ≤ 64) : ∀ (k i : Nat) (d : List Int), t.length < i + k → i ≤ t.length → t.length ≤ d.length → (∀ j, i ≤ j → InR (d.getD j 0 - t.getD j 0)) →
    ∃ r, less_loop4 k t (t.length : Int) (i : Int) d = some r ∧ r.length = d.length ∧ ∀ j, r.getD j 0 = if i ≤ j ∧ j < t.length then d.getD j 0 - t.getD j 0 else d.getD j 0 := by
  intro k
  induction k with
  | zero => intro i d h hi; omega
  | succ k ih =>
    intro i d h hi0 hd hr
    unfold less_loop4 less_loop4_step
    rw [Int.toNat_natCast, Nat.zero_add]
    by_cases hi : i < t.length
    · have hi' : (i : Int) < (t.length : Int) := by omega
      simp only [inb _ _ hi, inb i d.length (by omega), hi', decide_true, cond_true]
      rw [wi_id ((i : Int) + 1) (by omega) (by omega), wi_of (hr i (Nat.le_refl _))]
      have hset : ∀ j, (d.set i (d.getD i 0 - t.getD i 0)).getD j 0 = if j = i then d.getD i 0 - t.getD i 0 else d.getD j 0 := fun j => by
        rw [getD_set]
        by_cases hj : i = j
        · subst hj; rw [if_pos ⟨rfl, by omega⟩, if_pos rfl]
        · rw [if_neg (fun h => hj h.1), if_neg (fun h => hj h.symm)]
      -- behind i nothing has changed
      suffices hs : ∃ r, less_loop4 k t (t.length : Int) ((i + 1 : Nat) : Int) (d.set i (d.getD i 0 - t.getD i 0)) = some r ∧ r.length = (d.set i (d.getD i 0 - t.getD i 0)).length ∧ ∀ j, r.getD j 0 = if i + 1 ≤ j ∧ j < t.length then (d.set i (d.getD i 0 - t.getD i 0)).getD j 0 - t.getD j 0 else (d.set i (d.getD i 0 - t.getD i 0)).getD j 0 by
        obtain ⟨r, h1, h2, h3⟩ := hs
        refine ⟨r, h1, by rw [h2, List.length_set], fun j => ?_⟩
        rw [h3, hset]
        by_cases hj : j = i
        · subst hj; rw [if_neg (by omega), if_pos rfl, if_pos ⟨Nat.le_refl _, hi⟩]
        · rw [if_neg hj]
          by_cases hj2 : i + 1 ≤ j ∧ j < t.length
          · rw [if_pos hj2, if_pos (by omega)]
          · rw [if_neg hj2, if_neg (by omega)]
      exact ih (i + 1) _ (by omega) (by omega) (by rw [List.length_set]; exact hd) (fun j hj => by rw [hset, if_neg (by omega)]; exact hr j (by omega))
    · have hi' : ¬ (i : Int) < (t.length : Int) := by omega
      simp only [hi', decide_false, cond_false]
      exact ⟨d, rfl, rfl, fun j => by rw [if_neg (by omega)]⟩

def hasI (p : List Int) (o : Int) : Int := if 0 ≤ o ∧ o < (p.length : Int) then (if p.getD o.toNat 0 > 0 then p.getD o.toNat 0 else 0) else 0
theorem has_eq (p : List Int) (o : Int) : has p o = some (hasI p o) := by
  unfold has has_body hasI
  simp only [sc_or, Option.bind_some]
  by_cases h : 0 ≤ o ∧ o < (p.length : Int)
  · have e1 : (decide (o < 0) || decide (o ≥ (p.length : Int))) = false := by simp; omega
    have e2 : (decide (0 ≤ o) && decide (o < (p.length : Int))) = true := by simp; omega
    rw [e1, e2, if_pos h]; rfl
  · have e1 : (decide (o < 0) || decide (o ≥ (p.length : Int))) = true := by
      simp only [Bool.or_eq_true, decide_eq_true_eq]; omega
    rw [e1, if_neg h]; rfl

theorem start_less (p : List Int) : List.take (0 : Nat) (List.replicate (Int.toNat (p.length : Int)) (0 : Int)) ++ (List.take (List.length (List.replicate (Int.toNat (p.length : Int)) (0 : Int))) p ++ List.drop ((0 : Nat) + List.length (List.take (List.length (List.replicate (Int.toNat (p.length : Int)) (0 : Int))) p)) (List.replicate (Int.toNat (p.length : Int)) 0)) = p := by
  simp

theorem less_eq (p t : List Int) (hp : p.length ≤ 64) (ht : t.length ≤ p.length) (hr : ∀ j, InR (p.getD j 0 - t.getD j 0)) : less p t = some (ds p t) := by
  unfold less less_body
  rw [room4 (by omega) (by omega), cond_true, bind_eta, start_less]
  obtain ⟨r, h1, h2, h3⟩ := less_loop_is t (by omega) FUEL 0 p (fuel_gt _ (by omega)) (by omega) ht (fun j _ => hr j)
  have h1' : less_loop4 FUEL t (t.length : Int) 0 p = some r := h1
  rw [h1']
  congr 1
  refine ext_getD (by rw [h2, ds_length]) fun i hi => ?_
  rw [h3, ds_getD _ _ _ (by omega)]
  by_cases hi2 : i < t.length
  · rw [if_pos ⟨by omega, hi2⟩]
  · rw [if_neg (fun hh => hi2 hh.2), getD_far t i (by omega)]; omega

/-- What From takes. -/
def takeI (p : List Int) (o n : Int) : Int := if hasI p o < n then hasI p o else n
def fromL (p : List Int) (o n : Int) : List Int := if takeI p o n > 0 then (List.replicate p.length 0).set o.toNat (takeI p o n) else List.replicate p.length 0
theorem fromL_length (p : List Int) (o n : Int) : (fromL p o n).length = p.length := by unfold fromL; split <;> simp
theorem fromL_getD (p : List Int) (o n : Int) (i : Nat) (hi : i < p.length) : (fromL p o n).getD i 0 = if (i : Int) = o ∧ takeI p o n > 0 then takeI p o n else 0 := by
  unfold fromL
  by_cases h : takeI p o n > 0
  · rw [if_pos h, getD_set, getD_replicate _ _ _ _ hi]
    by_cases ho : (i : Int) = o
    · rw [if_pos ⟨by omega, by simpa using hi⟩, if_pos ⟨ho, h⟩]
    · have hin : 0 ≤ o := by
        by_cases h0 : 0 ≤ o
        · exact h0
        · exfalso
          have hz : hasI p o = 0 := by unfold hasI; rw [if_neg (fun hh => h0 hh.1)]
          unfold takeI at h; rw [hz] at h; split at h <;> omega
      rw [if_neg (fun hh => ho (by omega)), if_neg (fun hh => ho hh.1)]
  · rw [if_neg h, getD_replicate _ _ _ _ hi, if_neg (fun hh => h hh.2)]

theorem from_eq (p : List Int) (o n : Int) (hp : p.length ≤ 64) (hf : Fit p) : from_ p o n = some (fromL p o n, ds p (fromL p o n)) := by
  have hb : ∀ i, 0 ≤ (fromL p o n).getD i 0 ∧ (fromL p o n).getD i 0 ≤ 1125899906842624 := fun i => by
    by_cases hi : i < p.length
    · rw [fromL_getD p o n i hi]
      split
      · rename_i h
        refine ⟨by omega, ?_⟩
        have h1 : takeI p o n ≤ hasI p o := by unfold takeI; split <;> omega
        have h2 : hasI p o ≤ 1125899906842624 := by
          unfold hasI
          have := Fit_getD hf o.toNat
          split
          · split <;> omega
          · omega
        omega
      · omega
    · rw [getD_far _ _ (by rw [fromL_length]; omega)]; omega
  have hl := less_eq p (fromL p o n) hp (by rw [fromL_length]; omega) (fun j => by
    have := Fit_getD hf j; have := hb j; unfold InR; omega)
  unfold from_ from__body
  rw [room4 (by omega) (by omega), cond_true, has_eq, Int.toNat_natCast]
  simp only [Option.bind_some]
  have ht : (if hasI p o < n then hasI p o else n) = takeI p o n := rfl
  rw [ht]
  by_cases h : takeI p o n > 0
  · have hin : 0 ≤ o ∧ o < (p.length : Int) := by
      by_cases h0 : 0 ≤ o ∧ o < (p.length : Int)
      · exact h0
      · exfalso
        have hz : hasI p o = 0 := by unfold hasI; rw [if_neg h0]
        unfold takeI at h; rw [hz] at h; split at h <;> omega
    have e : (decide (0 ≤ o) && decide (o < ((List.replicate p.length (0 : Int)).length : Int))) = true := by simp; omega
    rw [decide_eq_true h, cond_true, e, cond_true, Nat.zero_add]
    have hfl : fromL p o n = (List.replicate p.length 0).set o.toNat (takeI p o n) := by unfold fromL; rw [if_pos h]
    rw [← hfl, hl]; rfl
  · rw [decide_eq_false h, cond_false]
    have hfl : fromL p o n = List.replicate p.length 0 := by unfold fromL; rw [if_neg h]
    rw [← hfl, hl]; rfl

def wantI (p : List Int) (o n : Int) (i : Nat) : Int := if (i : Int) = o ∧ n > 0 then (if p.getD i 0 < n then p.getD i 0 else n) else 0

theorem owns_loop_is (p : List Int) (hp : p.length ≤ 64) (hf : Fit p) (o n : Int) (a b : List Int) (ha : a.length = p.length) (hb : b.length = p.length) (h1 : ∀ i, i < p.length → a.getD i 0 = wantI p o n i) (h2 : ∀ i, i < p.length → b.getD i 0 = p.getD i 0 - wantI p o n i) (sm : Option Bool) :
    ∀ (k i : Nat), p.length < i + k → i ≤ p.length → owns_loop8 right_ from_ sm k p o n true a b (i : Int) = some (.inl true) := by
  intro k
  induction k with
  | zero => intro i h hi; omega
  | succ k ih =>
    intro i h hi0
    unfold owns_loop8 owns_loop8_step
    rw [Int.toNat_natCast]
    by_cases hi : i < p.length
    · have hi' : (i : Int) < (p.length : Int) := by omega
      have e1 := h1 i hi
      have e2 := h2 i hi
      have hfp := Fit_getD hf i
      rw [inb i p.length hi, inb i a.length (by omega), inb i b.length (by omega)]
      have nx := ih (i + 1) (by omega) (by omega)
      have hw : wi ((i : Int) + 1) = ((i + 1 : Nat) : Int) := wi_id _ (by omega) (by omega)
      unfold wantI at e1 e2
      by_cases hc : (i : Int) = o ∧ n > 0
      · rw [if_pos hc] at e1 e2
        have hcc : ((i : Int) == o && decide (n > 0)) = true := by simp [hc.1, hc.2]
        simp only [hi', decide_true, cond_true, sc_and, Option.bind_some, hcc, e1, e2, bne_self_eq_false, cond_false]
        rw [wi_id (p.getD i 0 - _) (by split <;> omega) (by split <;> omega), bne_self_eq_false, cond_false, hw]
        exact nx
      · rw [if_neg hc] at e1 e2
        have hcc : ((i : Int) == o && decide (n > 0)) = false := by
          cases hh : ((i : Int) == o && decide (n > 0))
          · rfl
          · simp only [Bool.and_eq_true, beq_iff_eq, decide_eq_true_eq] at hh; exact absurd hh hc
        simp only [hi', decide_true, cond_true, sc_and, Option.bind_some, hcc, e1, e2, bne_self_eq_false, cond_false]
        rw [wi_id (p.getD i 0 - _) (by omega) (by omega), bne_self_eq_false, cond_false, hw]
        exact nx
    · have hi' : ¬ (i : Int) < (p.length : Int) := by omega
      simp only [hi', decide_false, cond_false]

theorem owns_true (p : List Int) (o n : Int) (hr : ∀ x, x ∈ p → InR x) (hl : p.length ≤ 9223372036854775807) : owns p o n = some true := by
  unfold owns owns_body
  simp only [small_true, Option.bind_some]
  rw [right__eq p _ hr hl]
  by_cases hc : (0 : Int) ≤ (p.length : Int) ∧ (p.length : Int) ≤ 16 ∧ (p.length : Int) = (p.length : Int) ∧ Fit p
  · rw [decide_eq_true hc]
    obtain ⟨_, h16, _, hf⟩ := hc
    simp only [Option.bind_some, Bool.not_true, cond_false, from_eq p o n (by omega) hf, fromL_length, ds_length, bne_self_eq_false]
    have hhas : ∀ i : Nat, i < p.length → (i : Int) = o → hasI p o = p.getD i 0 := fun i hi ho => by
      unfold hasI
      have := Fit_getD hf i
      rw [if_pos (by omega), ← ho, Int.toNat_natCast]
      split <;> omega
    have hw : ∀ i, i < p.length → (fromL p o n).getD i 0 = wantI p o n i := fun i hi => by
      rw [fromL_getD p o n i hi]
      unfold wantI
      have := Fit_getD hf i
      by_cases ho : (i : Int) = o
      · have hh := hhas i hi ho
        unfold takeI
        rw [hh]
        (repeat' split) <;> omega
      · rw [if_neg (fun h => ho h.1), if_neg (fun h => ho h.1)]
    have g := owns_loop_is p (by omega) hf o n (fromL p o n) (ds p (fromL p o n)) (fromL_length _ _ _) (ds_length _ _) hw (fun i hi => by rw [ds_getD _ _ _ hi, hw i hi]) (some true) FUEL 0 (fuel_gt _ hl) (by omega)
    have g' : owns_loop8 right_ from_ (some true) FUEL p o n true (fromL p o n) (ds p (fromL p o n)) 0 = _ := g
    rw [g']
    rfl
  · rw [decide_eq_false hc]
    rfl
end Go.Lift.S17
