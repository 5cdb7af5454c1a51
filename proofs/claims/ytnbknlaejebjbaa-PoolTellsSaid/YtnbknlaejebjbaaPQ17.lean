import Derived.Test.YtnbknlaejebjbaaPP17
set_option linter.all false
/- pool.Add and its reference. -/
set_option linter.unusedSimpArgs false
set_option linter.unusedVariables false
namespace Go.Lift.S17
open Go Go.Lift Go.Lift.Ar

theorem InR0 : InR 0 := by unfold InR; omega
theorem inR_getD {l : List Int} (h : ∀ x, x ∈ l → InR x) (j : Nat) : InR (l.getD j 0) := by
  by_cases hj : j < l.length
  · exact h _ (getD_mem l j 0 hj)
  · rw [List.getD_eq_getElem?_getD, List.getElem?_eq_none (by omega)]; exact InR0
theorem getD_far (l : List Int) (j : Nat) (h : l.length ≤ j) : l.getD j 0 = 0 := by
  rw [List.getD_eq_getElem?_getD, List.getElem?_eq_none (by omega)]; rfl

/-- The sum of two pools. -/
def zs (p q : List Int) : List Int := (List.range (Nat.max p.length q.length)).map fun i => sat (p.getD i 0 + q.getD i 0)
theorem zs_len (p q : List Int) : (zs p q).length = Nat.max p.length q.length := by simp [zs]
theorem zs_getD (p q : List Int) (i : Nat) : (zs p q).getD i 0 = sat (p.getD i 0 + q.getD i 0) := by
  by_cases h : i < Nat.max p.length q.length
  · unfold zs; rw [getD_map_range _ _ _ _ h]
  · have : p.length ≤ i ∧ q.length ≤ i := by have := Nat.le_max_left p.length q.length; have := Nat.le_max_right p.length q.length; have : Nat.max p.length q.length ≤ i := by omega
                                             constructor <;> (simp only [Nat.max_def] at *; split at * <;> omega)
    rw [getD_far _ _ (by rw [zs_len]; omega), getD_far p i this.1, getD_far q i this.2, sat_of (by unfold InR; omega)]; rfl
theorem zs_in (p q : List Int) : ∀ x, x ∈ zs p q → InR x := by
  intro x hx
  simp only [zs, List.mem_map] at hx
  obtain ⟨i, _, rfl⟩ := hx
  exact sat_in _

theorem padd_loop (q : List Int) (hq : ∀ x, x ∈ q → InR x) (hl : q.length ≤ 9223372036854775807) :
    ∀ (k i : Nat) (out : List Int), q.length < i + k → i ≤ q.length → q.length ≤ out.length → (∀ j, InR (out.getD j 0)) →
      ∃ r, padd_loop4 add k q (q.length : Int) i out = some r ∧ r.length = out.length ∧ ∀ j, r.getD j 0 = if i ≤ j ∧ j < q.length then sat (out.getD j 0 + q.getD j 0) else out.getD j 0 := by
  intro k
  induction k with
  | zero => intro i n h hi; omega
  | succ k ih =>
    intro i out h hi0 ho hr
    unfold padd_loop4 padd_loop4_step
    rw [Int.toNat_natCast, Nat.zero_add]
    by_cases hi : i < q.length
    · have hi' : (i : Int) < (q.length : Int) := by omega
      simp only [inb _ _ hi, inb i out.length (by omega), hi', decide_true, cond_true]
      rw [add_eq _ _ (hr i) (inR_getD hq i)]
      simp only [Option.bind_some]
      rw [wi_id ((i : Int) + 1) (by omega) (by omega)]
      obtain ⟨r, h1, h2, h3⟩ := ih (i + 1) (out.set i (sat (out.getD i 0 + q.getD i 0))) (by omega) (by omega) (by rw [List.length_set]; exact ho) (fun j => by
        rw [getD_set]; split
        · exact sat_in _
        · exact hr j)
      refine ⟨r, h1, by rw [h2, List.length_set], fun j => ?_⟩
      rw [h3, getD_set]
      by_cases hj : i = j
      · subst hj
        rw [if_neg (by omega), if_pos ⟨rfl, by omega⟩, if_pos ⟨Nat.le_refl _, hi⟩]
      · by_cases hj2 : i + 1 ≤ j ∧ j < q.length
        · rw [if_pos hj2, if_neg (fun hh => hj hh.1), if_pos (by omega)]
        · rw [if_neg hj2, if_neg (fun hh => hj hh.1), if_neg (by omega)]
    · have hi' : ¬ (i : Int) < (q.length : Int) := by omega
      simp only [hi', decide_false, cond_false]
      exact ⟨out, rfl, rfl, fun j => by rw [if_neg (by omega)]⟩

theorem start_out (p : List Int) (n : Nat) (h : p.length ≤ n) : List.take 0 (List.replicate n 0) ++ (List.take (List.length (List.replicate n (0 : Int))) p ++ List.drop (0 + List.length (List.take (List.length (List.replicate n (0 : Int))) p)) (List.replicate n 0)) = p ++ List.replicate (n - p.length) 0 := by
  simp [List.take_of_length_le h, Nat.min_eq_right h]

theorem padd_eq (p q : List Int) (hp : ∀ x, x ∈ p → InR x) (hq : ∀ x, x ∈ q → InR x) (hpl : p.length ≤ 80) (hql : q.length ≤ 80) : padd p q = some (zs p q) := by
  unfold padd padd_body
  have hn : (if (q.length : Int) > (p.length : Int) then (q.length : Int) else (p.length : Int)) = ((Nat.max p.length q.length : Nat) : Int) := by
    show _ = ((max p.length q.length : Nat) : Int)
    split <;> omega
  have hm : Nat.max p.length q.length ≤ 80 := Nat.max_le.2 ⟨hpl, hql⟩
  have hmp := Nat.le_max_left p.length q.length
  have hmq := Nat.le_max_right p.length q.length
  rw [hn]
  rw [room4 (by omega) (by omega), cond_true, bind_eta, Int.toNat_natCast]
  have hst := start_out p _ hmp
  have hst' : List.take ((0 : Nat)) (List.replicate (Nat.max p.length q.length) 0) ++ (List.take (List.length (List.replicate (Nat.max p.length q.length) (0 : Int))) p ++ List.drop ((0 : Nat) + List.length (List.take (List.length (List.replicate (Nat.max p.length q.length) (0 : Int))) p)) (List.replicate (Nat.max p.length q.length) 0)) = p ++ List.replicate (Nat.max p.length q.length - p.length) 0 := hst
  rw [hst']
  have hlen : (p ++ List.replicate (Nat.max p.length q.length - p.length) (0 : Int)).length = Nat.max p.length q.length := by simp; exact Nat.add_sub_cancel' hmp
  have hget : ∀ j, (p ++ List.replicate (Nat.max p.length q.length - p.length) (0 : Int)).getD j 0 = p.getD j 0 := fun j => by
    simp only [List.getD_eq_getElem?_getD]
    by_cases hj : j < p.length
    · rw [List.getElem?_append_left hj]
    · rw [List.getElem?_append_right (by omega), List.getElem?_eq_none (l := p) (by omega), List.getElem?_replicate]
      split <;> rfl
  obtain ⟨r, h1, h2, h3⟩ := padd_loop q hq (by omega) FUEL 0 (p ++ List.replicate (Nat.max p.length q.length - p.length) 0) (fuel_gt _ (by omega)) (by omega) (by rw [hlen]; exact hmq) (fun j => by rw [hget]; exact inR_getD hp j)
  have h1' : padd_loop4 add FUEL q (q.length : Int) 0 (p ++ List.replicate (Nat.max p.length q.length - p.length) 0) = some r := h1
  rw [h1']
  congr 1
  refine ext_getD (by rw [h2, hlen, zs_len]) fun i _ => ?_
  rw [h3, hget, zs_getD]
  by_cases hi : i < q.length
  · rw [if_pos ⟨by omega, hi⟩]
  · rw [if_neg (fun hh => hi hh.2), getD_far q i (by omega), Int.add_zero, sat_of (inR_getD hp i)]

theorem at_r_eq (p : List Int) (i : Nat) : at_r p i = some (p.getD i 0) := by
  unfold at_r at_r_body
  rw [Int.toNat_natCast]
  simp only [sc_or, Option.bind_some]
  have h0 : decide ((i : Int) < 0) = false := decide_eq_false (by omega)
  by_cases h : i < p.length
  · have h1 : decide ((i : Int) ≥ (p.length : Int)) = false := decide_eq_false (by omega)
    rw [h0, h1, inb _ _ h]; rfl
  · have h1 : decide ((i : Int) ≥ (p.length : Int)) = true := by simp <;> omega
    rw [h0, h1, getD_far p i (by omega)]; rfl

theorem padd_r_loop (p q : List Int) (hp : ∀ x, x ∈ p → InR x) (hq : ∀ x, x ∈ q → InR x) (hpl : p.length ≤ 80) (hql : q.length ≤ 80) :
    ∀ (k i : Nat) (out : List Int), Nat.max p.length q.length < i + k → i ≤ Nat.max p.length q.length → out.length = i →
      padd_r_loop3 add_r at_r k p q i out = some (out ++ (zs p q).drop i) := by
  have hm : Nat.max p.length q.length ≤ 80 := Nat.max_le.2 ⟨hpl, hql⟩
  intro k
  induction k with
  | zero => intro i n h hi; omega
  | succ k ih =>
    intro i out h hi0 ho
    unfold padd_r_loop3 padd_r_loop3_step
    by_cases hi : i < Nat.max p.length q.length
    · have hc : (decide ((i : Int) < (p.length : Int)) || decide ((i : Int) < (q.length : Int))) = true := by
        have hi2 : i < max p.length q.length := hi
        simp; omega
      simp only [sc_or, hc, Option.bind_some, cond_true, at_r_eq, add_r_eq _ _ (inR_getD hp i) (inR_getD hq i)]
      rw [app1]
      rw [roomD (by rw [List.length_append, ho]; simp; omega), cond_true, wi_id ((i : Int) + 1) (by omega) (by omega)]
      have hd := drop_cons (zs p q) i 0 (by rw [zs_len]; exact hi)
      rw [zs_getD] at hd
      have := ih (i + 1) (out ++ [sat (p.getD i 0 + q.getD i 0)]) (by omega) (by omega) (by rw [List.length_append, ho]; rfl)
      rw [hd]
      rw [List.append_assoc] at this
      exact this
    · have hi2 : ¬ i < max p.length q.length := hi
      have hc : (decide ((i : Int) < (p.length : Int)) || decide ((i : Int) < (q.length : Int))) = false := by simp; omega
      simp only [sc_or, hc, Option.bind_some, cond_false]
      rw [List.drop_eq_nil_of_le (by rw [zs_len]; omega), List.append_nil]

theorem padd_r_eq (p q : List Int) (hp : ∀ x, x ∈ p → InR x) (hq : ∀ x, x ∈ q → InR x) (hpl : p.length ≤ 80) (hql : q.length ≤ 80) : padd_r p q = some (zs p q) := by
  have hm : Nat.max p.length q.length ≤ 80 := Nat.max_le.2 ⟨hpl, hql⟩
  unfold padd_r padd_r_body
  rw [bind_eta]
  have := padd_r_loop p q hp hq hpl hql FUEL 0 [] (fuel_gt _ (by omega)) (by omega) rfl
  rw [List.drop_zero, List.nil_append] at this
  exact this
end Go.Lift.S17
