import Derived.Test.YtnbknlaejebjbaaPT17
set_option linter.all false
/- The statement PoolTells. -/
set_option linter.unusedSimpArgs false
set_option linter.unusedVariables false
namespace Go.Lift.S17
open Go Go.Lift Go.Lift.Ar

/-- What is left, around the end of the numbers. -/
def dsw (p t : List Int) : List Int := (List.range p.length).map fun i => wi (p.getD i 0 - t.getD i 0)
theorem dsw_length (p t : List Int) : (dsw p t).length = p.length := by simp [dsw]
theorem dsw_getD (p t : List Int) (i : Nat) (h : i < p.length) : (dsw p t).getD i 0 = wi (p.getD i 0 - t.getD i 0) := getD_map_range _ _ _ _ h

theorem less_loop_w (t : List Int) (ht : t.length ≤ 80) : ∀ (k i : Nat) (d : List Int), t.length < i + k → i ≤ t.length → t.length ≤ d.length →
    ∃ r, less_loop4 k t (t.length : Int) (i : Int) d = some r ∧ r.length = d.length ∧ ∀ j, r.getD j 0 = if i ≤ j ∧ j < t.length then wi (d.getD j 0 - t.getD j 0) else d.getD j 0 := by
  intro k
  induction k with
  | zero => intro i d h hi; omega
  | succ k ih =>
    intro i d h hi0 hd
    unfold less_loop4 less_loop4_step
    rw [Int.toNat_natCast, Nat.zero_add]
    by_cases hi : i < t.length
    · have hi' : (i : Int) < (t.length : Int) := by omega
      simp only [inb _ _ hi, inb i d.length (by omega), hi', decide_true, cond_true]
      rw [wi_id ((i : Int) + 1) (by omega) (by omega)]
      have hset : ∀ j, (d.set i (wi (d.getD i 0 - t.getD i 0))).getD j 0 = if j = i then wi (d.getD i 0 - t.getD i 0) else d.getD j 0 := fun j => by
        rw [getD_set]
        by_cases hj : i = j
        · subst hj; rw [if_pos ⟨rfl, by omega⟩, if_pos rfl]
        · rw [if_neg (fun h => hj h.1), if_neg (fun h => hj h.symm)]
      suffices hs : ∃ r, less_loop4 k t (t.length : Int) ((i + 1 : Nat) : Int) (d.set i (wi (d.getD i 0 - t.getD i 0))) = some r ∧ r.length = (d.set i (wi (d.getD i 0 - t.getD i 0))).length ∧ ∀ j, r.getD j 0 = if i + 1 ≤ j ∧ j < t.length then wi ((d.set i (wi (d.getD i 0 - t.getD i 0))).getD j 0 - t.getD j 0) else (d.set i (wi (d.getD i 0 - t.getD i 0))).getD j 0 by
        obtain ⟨r, h1, h2, h3⟩ := hs
        refine ⟨r, h1, by rw [h2, List.length_set], fun j => ?_⟩
        rw [h3, hset]
        by_cases hj : j = i
        · subst hj; rw [if_neg (by omega), if_pos rfl, if_pos ⟨Nat.le_refl _, hi⟩]
        · rw [if_neg hj]
          by_cases hj2 : i + 1 ≤ j ∧ j < t.length
          · rw [if_pos hj2, if_pos (by omega)]
          · rw [if_neg hj2, if_neg (by omega)]
      exact ih (i + 1) _ (by omega) (by omega) (by rw [List.length_set]; exact hd)
    · have hi' : ¬ (i : Int) < (t.length : Int) := by omega
      simp only [hi', decide_false, cond_false]
      exact ⟨d, rfl, rfl, fun j => by rw [if_neg (by omega)]⟩

theorem less_w (p t : List Int) (hp : p.length ≤ 80) (ht : t.length = p.length) : less p t = some (dsw p t) := by
  unfold less less_body
  rw [room4 (by omega) (by omega), cond_true, bind_eta, start_less]
  obtain ⟨r, h1, h2, h3⟩ := less_loop_w t (by omega) FUEL 0 p (fuel_gt _ (by omega)) (by omega) (by omega)
  have h1' : less_loop4 FUEL t (t.length : Int) 0 p = some r := h1
  rw [h1']
  congr 1
  refine ext_getD (by rw [h2, dsw_length]) fun i hi => ?_
  rw [h3, dsw_getD _ _ _ (by omega), if_pos ⟨by omega, by omega⟩]

theorem less_nil (p : List Int) (hp : p.length ≤ 80) : less p (nilOf Int) = some p := by
  unfold less less_body
  rw [room4 (by omega) (by omega), cond_true, bind_eta, start_less]
  obtain ⟨r, h1, h2, h3⟩ := less_loop_w [] (by simp) FUEL 0 p (fuel_gt _ (by simp)) (by simp) (by simp)
  have h1' : less_loop4 FUEL (nilOf Int) ((nilOf Int).length : Int) 0 p = some r := h1
  rw [h1']
  congr 1
  refine ext_getD h2 fun i hi => ?_
  rw [h3, if_neg (by simp)]

theorem less_r_loop_is (p t : List Int) (hp : p.length ≤ 80) (ht : t.length = p.length) : ∀ (k i : Nat) (out : List Int), p.length < i + k → i ≤ p.length → out.length = i →
    less_r_loop3 k p t (i : Int) out = some (out ++ (dsw p t).drop i) := by
  intro k
  induction k with
  | zero => intro i n h hi; omega
  | succ k ih =>
    intro i out h hi0 ho
    unfold less_r_loop3 less_r_loop3_step
    rw [Int.toNat_natCast]
    by_cases hi : i < p.length
    · rw [inb _ _ hi, inb i t.length (by omega), decide_eq_true (show (i : Int) < (p.length : Int) by omega), app1]
      simp only [cond_true]
      rw [roomD (by rw [List.length_append, ho]; simp; omega), cond_true, wi_id ((i : Int) + 1) (by omega) (by omega)]
      have hd := drop_cons (dsw p t) i 0 (by rw [dsw_length]; exact hi)
      rw [dsw_getD _ _ _ hi] at hd
      have := ih (i + 1) (out ++ [wi (p.getD i 0 - t.getD i 0)]) (by omega) (by omega) (by rw [List.length_append, ho]; rfl)
      rw [hd]
      rw [List.append_assoc] at this
      exact this
    · rw [decide_eq_false (show ¬ (i : Int) < (p.length : Int) by omega), cond_false, List.drop_eq_nil_of_le (by rw [dsw_length]; omega), List.append_nil]

theorem less_r_is (p t : List Int) (hp : p.length ≤ 80) (ht : t.length = p.length) : less_r p t = some (dsw p t) := by
  unfold less_r less_r_body
  rw [bind_eta]
  have := less_r_loop_is p t hp ht FUEL 0 [] (fuel_gt _ (by omega)) (by omega) rfl
  rw [List.drop_zero, List.nil_append] at this
  exact this

theorem plain_loop_is (l : List Int) (hl : l.length ≤ 80) : ∀ (k i : Nat), l.length < i + k → i ≤ l.length →
    plain_r_loop2 sum_r k l (i : Int) = some (if ∀ x, x ∈ l.drop i → 0 ≤ x ∧ x ≤ 1125899906842624 then .inl l else .inr false) := by
  intro k
  induction k with
  | zero => intro i h hi; omega
  | succ k ih =>
    intro i h hi0
    unfold plain_r_loop2 plain_r_loop2_step
    rw [Int.toNat_natCast]
    by_cases hi : i < l.length
    · rw [drop_cons l i 0 hi, inb _ _ hi, decide_eq_true (show (i : Int) < (l.length : Int) by omega)]
      generalize List.getD l i 0 = x at *
      simp only [cond_true, sc_or, Option.bind_some]
      by_cases hx : x < 0 ∨ x > 1125899906842624
      · have : (decide (x < 0) || decide (x > 1125899906842624)) = true := by simpa using hx
        rw [this, cond_true, if_neg (fun hh => by have := hh x (by simp); omega)]
      · have : (decide (x < 0) || decide (x > 1125899906842624)) = false := by simp; omega
        rw [this, cond_false, wi_id ((i : Int) + 1) (by omega) (by omega)]
        have h2 := ih (i + 1) (by omega) (by omega)
        have h2' : plain_r_loop2 sum_r k l ((i : Int) + 1) = _ := h2
        rw [h2']
        have e : (∀ y, y ∈ x :: l.drop (i + 1) → 0 ≤ y ∧ y ≤ 1125899906842624) ↔ (∀ y, y ∈ l.drop (i + 1) → 0 ≤ y ∧ y ≤ 1125899906842624) := by
          constructor
          · intro hh y hy; exact hh y (by simp [hy])
          · intro hh y hy
            rcases List.mem_cons.1 hy with rfl | hy
            · omega
            · exact hh y hy
        by_cases hc : ∀ y, y ∈ l.drop (i + 1) → 0 ≤ y ∧ y ≤ 1125899906842624
        · rw [if_pos hc, if_pos (e.2 hc)]
        · rw [if_neg hc, if_neg (fun h => hc (e.1 h))]
    · rw [decide_eq_false (show ¬ (i : Int) < (l.length : Int) by omega), cond_false, List.drop_eq_nil_of_le (by omega), if_pos (fun y hy => by cases hy)]

theorem plain_r_eq (l : List Int) (hr : ∀ x, x ∈ l → InR x) (hl : l.length ≤ 80) : plain_r l = some (decide (Fit l)) := by
  unfold plain_r plain_r_body
  have h : plain_r_loop2 sum_r FUEL l 0 = _ := plain_loop_is l hl FUEL 0 (fuel_gt _ (by omega)) (by omega)
  rw [h, List.drop_zero]
  by_cases hn : ∀ x, x ∈ l → 0 ≤ x ∧ x ≤ 1125899906842624
  · rw [if_pos hn]
    have hn' : ∀ x, x ∈ l → 0 ≤ x := fun x hx => (hn x hx).1
    simp only [Option.bind_some, Sum.elim, sum_r_eq l hr (by omega), sum_eq l hr (by omega), sc_and]
    have h0 := isum_nonneg hn'
    by_cases hc : isum l ≤ 9223372036854775807
    · rw [if_pos ⟨by omega, hc⟩]
      simp only [Bool.true_and, Option.some.injEq, decide_eq_decide]
      unfold Fit
      exact ⟨fun h => ⟨hn', h⟩, fun h => h.2⟩
    · rw [if_neg (fun h => hc h.2)]
      have : ¬ Fit l := fun h => hc (by have := h.2; omega)
      simp only [this, decide_false, Bool.false_and]
  · rw [if_neg hn]
    have : ¬ Fit l := fun h => hn (fun x hx => Fit_le h x hx)
    simp only [Option.bind_some, Sum.elim, this, decide_false]

theorem right_same (l : List Int) (o : Int) (hr : ∀ x, x ∈ l → InR x) (hl : l.length ≤ 80) : ∃ b, right_ l o = some b ∧ right_r l o = some b := by
  refine ⟨_, right__eq l o hr (by omega), ?_⟩
  unfold right_r right_r_body
  rw [plain_r_eq l hr hl]
  simp only [sc_and, Option.bind_some, Option.some.injEq]
  by_cases h1 : 0 ≤ o <;> by_cases h2 : o ≤ 16 <;> by_cases h3 : (l.length : Int) = o <;> by_cases h4 : Fit l <;> simp [h1, h2, h3, h4]
  all_goals omega

theorem share_len (total : Int) (l : List Int) (hl : l.length ≤ 9223372036854775807) : ∃ x ok, share total l = some (x, ok) ∧ (ok = true → x.length = l.length) := by
  by_cases hv : Valid total l
  · obtain ⟨h64, hw, hM, ht0, ht1⟩ := hv
    have hW := isum_W hw
    rcases Int.lt_or_le 0 (isum l) with hpos | hz
    · obtain ⟨d, x, left, s1, s2, s3, s4, s5, s6, s7⟩ := share_ok total l hw h64 hM ht0 ht1 hpos (sortStable_is _ _ (by simp [rs]) (by omega))
      exact ⟨x, true, s5, fun _ => s6⟩
    · have hz' : isum l = 0 := by omega
      have ht : total = 0 := by omega
      subst ht
      exact ⟨_, true, share_zero l hw h64 hz', fun _ => by simp⟩
  · exact ⟨_, false, share_bad total l hl hv, fun h => by cases h⟩

theorem take_same (p : List Int) (n : Int) (hr : ∀ x, x ∈ p → InR x) (hp : p.length ≤ 80) : ∃ a b, take p n = some (a, b) ∧ take_r p n = some (a, b) ∧ a.length ≤ 80 ∧ b.length ≤ 80 := by
  unfold take take_body take_r take_r_body
  rw [room4 (by omega) (by omega), right_eq p hr (by omega), plain_r_eq p hr hp, total_eq p hr (by omega), total_r_eq p hr (by omega), Int.toNat_natCast]
  have z : (List.replicate p.length (0 : Int)).length = p.length := by simp
  rw [less_w p _ hp z, less_r_is p _ hp z]
  simp only [cond_true, Option.bind_some, sc_or, sc_and, bind_eta]
  by_cases hc : n > 0 ∧ Fit p
  · rw [decide_eq_true hc.1, decide_eq_true hc.2, decide_eq_false (show ¬ n ≤ 0 by omega)]
    simp only [Bool.and_self, Bool.not_true, Bool.or_self, cond_true, cond_false, share_r_eq _ p (show p.length ≤ 9223372036854775807 by omega), Option.bind_some]
    obtain ⟨x, ok, hs, hx⟩ := share_len (if tot p < n then tot p else n) p (by omega)
    rw [hs]
    simp only [Option.bind_some]
    cases ok
    · exact ⟨_, _, rfl, rfl, by rw [z]; exact hp, by rw [dsw_length]; exact hp⟩
    · simp only [cond_true, Bool.not_true, cond_false]
      rw [less_w p x hp (hx rfl), less_r_is p x hp (hx rfl)]
      exact ⟨_, _, rfl, rfl, by rw [hx rfl]; exact hp, by rw [dsw_length]; exact hp⟩
  · have e1 : (decide (n > 0) && decide (Fit p)) = false := by
      rw [← Bool.not_eq_true, Bool.and_eq_true, decide_eq_true_eq, decide_eq_true_eq]; exact hc
    have e2 : (!decide (Fit p) || decide (n ≤ 0)) = true := by
      rw [Bool.or_eq_true, decide_eq_true_eq, Bool.not_eq_true', decide_eq_false_iff_not]
      by_cases hf : Fit p
      · right
        rcases Int.lt_or_le 0 n with h | h
        · exact absurd ⟨h, hf⟩ hc
        · exact h
      · exact .inl hf
    rw [e1, e2]
    simp only [cond_true, cond_false]
    exact ⟨_, _, rfl, rfl, by rw [z]; exact hp, by rw [dsw_length]; exact hp⟩

/-- An element, or 0. -/
def atI (p : List Int) (o : Int) : Int := if 0 ≤ o ∧ o < (p.length : Int) then p.getD o.toNat 0 else 0
theorem at_r_is (p : List Int) (o : Int) : at_r p o = some (atI p o) := by
  unfold at_r at_r_body atI
  simp only [sc_or, Option.bind_some]
  by_cases h : 0 ≤ o ∧ o < (p.length : Int)
  · have e1 : (decide (o < 0) || decide (o ≥ (p.length : Int))) = false := by simp; omega
    have e2 : (decide (0 ≤ o) && decide (o < (p.length : Int))) = true := by simp; omega
    rw [e1, e2, if_pos h]; rfl
  · have e1 : (decide (o < 0) || decide (o ≥ (p.length : Int))) = true := by
      simp only [Bool.or_eq_true, decide_eq_true_eq]; omega
    rw [e1, if_neg h]; rfl

theorem hasI_at (p : List Int) (o : Int) : hasI p o = if atI p o > 0 then atI p o else 0 := by
  unfold hasI atI
  by_cases h : 0 ≤ o ∧ o < (p.length : Int)
  · rw [if_pos h, if_pos h]
  · rw [if_neg h, if_neg h]; rfl

/-- What is wanted is there, for both, and as much; or it is not. -/
theorem min_same (p : List Int) (o n : Int) : ((if hasI p o < n then hasI p o else n) = (if atI p o < n then atI p o else n) ∧ 0 < (if atI p o < n then atI p o else n) ∧ 0 ≤ o ∧ o < (p.length : Int)) ∨
    (¬ (if hasI p o < n then hasI p o else n) > 0 ∧ ¬ (if atI p o < n then atI p o else n) > 0) := by
  rw [hasI_at]
  by_cases h : atI p o > 0
  · rw [if_pos h]
    by_cases h2 : 0 < (if atI p o < n then atI p o else n)
    · refine .inl ⟨rfl, h2, ?_⟩
      unfold atI at h
      split at h
      · assumption
      · omega
    · exact .inr ⟨h2, h2⟩
  · rw [if_neg h]
    right
    constructor <;> split <;> omega

theorem from_same (p : List Int) (o n : Int) (hp : p.length ≤ 80) : ∃ a b, from_ p o n = some (a, b) ∧ from_r p o n = some (a, b) ∧ a.length ≤ 80 ∧ b.length ≤ 80 := by
  unfold from_ from__body from_r from_r_body
  have z : (List.replicate p.length (0 : Int)).length = p.length := by simp
  rw [room4 (by omega) (by omega), has_eq, at_r_is, Int.toNat_natCast, less_w p _ hp z, less_r_is p _ hp z, z]
  simp only [cond_true, Option.bind_some]
  rcases min_same p o n with ⟨e, h1, h2, h3⟩ | ⟨h1, h2⟩
  · rw [e]
    generalize (if atI p o < n then atI p o else n) = m at *
    have e2 : (decide (0 ≤ o) && decide (o < (p.length : Int))) = true := by simp; omega
    have z2 : (List.set (List.replicate p.length (0 : Int)) ((0 : Nat) + o.toNat) m).length = p.length := by simp
    rw [decide_eq_true (show m > 0 by omega), e2, less_w p _ hp z2, less_r_is p _ hp z2]
    exact ⟨_, _, rfl, rfl, by rw [z2]; exact hp, by rw [dsw_length]; exact hp⟩
  · rw [decide_eq_false h1, decide_eq_false h2]
    exact ⟨_, _, rfl, rfl, by rw [z]; exact hp, by rw [dsw_length]; exact hp⟩

theorem give_same (p : List Int) (o t n : Int) (hr : ∀ x, x ∈ p → InR x) (hn : InR n) (hp : p.length ≤ 80) : ∃ a, give p o t n = some a ∧ give_r p o t n = some a ∧ a.length ≤ 80 := by
  unfold give give_body give_r give_r_body
  have e0 : nilOf Int ++ p = p := rfl
  rw [e0, less_nil p hp, roomD (by omega), has_eq, at_r_is]
  simp only [cond_true, Option.bind_some, sc_or, sc_and]
  rcases min_same p o n with ⟨e, h1, h2, h3⟩ | ⟨h1, h2⟩
  · rw [e]
    have hm : InR (if atI p o < n then atI p o else n) := by
      have h0 : InR (atI p o) := by
        unfold atI
        split
        · exact inR_getD hr _
        · exact InR0
      split
      · exact h0
      · exact hn
    generalize (if atI p o < n then atI p o else n) = m at *
    rw [decide_eq_true (show m > 0 by omega), decide_eq_false (show ¬ m ≤ 0 by omega)]
    have e2 : (decide (0 ≤ o) && decide (o < (p.length : Int))) = true := by simp; omega
    by_cases hc : 0 ≤ t ∧ t < (p.length : Int) ∧ t ≠ o
    · have c1 : (true && decide (t ≥ 0) && decide (t < (p.length : Int)) && (t != o)) = true := by
        rw [decide_eq_true (show t ≥ 0 by omega), decide_eq_true hc.2.1, bne_iff_ne.2 hc.2.2]; rfl
      have c2 : (false || decide (t < 0) || decide (t ≥ (p.length : Int)) || (o == t)) = false := by
        rw [decide_eq_false (show ¬ t < 0 by omega), decide_eq_false (show ¬ t ≥ (p.length : Int) by omega), beq_eq_false_iff_ne.2 (fun h => hc.2.2 h.symm)]; rfl
      rw [c1, c2, e2]
      have z2 : (List.set p ((0 : Nat) + o.toNat) (wi (List.getD p ((0 : Nat) + o.toNat) 0 - m))).length = p.length := by simp
      have e3 : (decide (0 ≤ t) && decide (t < (p.length : Int))) = true := by simp; omega
      rw [z2, e3]
      have hin : InR (List.getD (List.set p ((0 : Nat) + o.toNat) (wi (List.getD p ((0 : Nat) + o.toNat) 0 - m))) ((0 : Nat) + t.toNat) 0) := by
        rw [getD_set]
        split
        · unfold InR; rw [wi_mod]; omega
        · exact inR_getD hr _
      simp only [cond_true, cond_false]
      rw [add_eq _ _ hin hm, add_r_eq _ _ hin hm]
      exact ⟨_, rfl, rfl, by simp [hp]⟩
    · have c1 : (true && decide (t ≥ 0) && decide (t < (p.length : Int)) && (t != o)) = false := by
        rw [← Bool.not_eq_true]
        simp only [Bool.and_eq_true, decide_eq_true_eq, bne_iff_ne, true_and]
        intro h; exact hc ⟨h.1.1, h.1.2, h.2⟩
      have c2 : (false || decide (t < 0) || decide (t ≥ (p.length : Int)) || (o == t)) = true := by
        simp only [Bool.or_eq_true, decide_eq_true_eq, beq_iff_eq, Bool.false_eq_true, false_or]
        by_cases a : t < 0
        · exact .inl (.inl a)
        · by_cases b : t ≥ (p.length : Int)
          · exact .inl (.inr b)
          · right
            by_cases c : o = t
            · exact c
            · exact absurd ⟨by omega, by omega, fun h => c h.symm⟩ hc
      rw [c1, c2]
      exact ⟨_, rfl, rfl, hp⟩
  · rw [decide_eq_false h1, decide_eq_true (show (if atI p o < n then atI p o else n) ≤ 0 by omega)]
    simp only [Bool.false_and, Bool.true_or, cond_false, cond_true]
    exact ⟨_, rfl, rfl, hp⟩

theorem tells_true (p q : List Int) (o t n : Int) (hp : ∀ x, x ∈ p → InR x) (hpl : p.length ≤ 9223372036854775807) (hq : ∀ x, x ∈ q → InR x) (hql : q.length ≤ 9223372036854775807) (hn : InR n) : tells p q o t n = some true := by
  unfold tells tells_body
  rw [small_true]
  simp only [Option.bind_some, sc_or, bind_eta]
  by_cases h : p.length ≤ 80 ∧ q.length ≤ 80
  · have c : (decide ((p.length : Int) > 80) || decide ((q.length : Int) > 80)) = false := by simp; omega
    obtain ⟨a, b, t1, t2, t3, t4⟩ := take_same p n hp h.1
    obtain ⟨c1, d1, f1, f2, f3, f4⟩ := from_same p o n h.1
    obtain ⟨g, g1, g2, g3⟩ := give_same p o t n hp hn h.1
    obtain ⟨r, r1, r2⟩ := right_same p o hp h.1
    obtain ⟨u, u1, u2⟩ := right_same p (p.length : Int) hp h.1
    have hz : (zs p q).length ≤ 80 := by rw [zs_len]; exact Nat.max_le.2 ⟨h.1, h.2⟩
    rw [c, cond_false, t1, t2, f1, f2, g1, g2, r1, r2, u1, u2, padd_eq p q hp hq h.1 h.2, padd_r_eq p q hp hq h.1 h.2, total_eq p hp (by omega), total_r_eq p hp (by omega)]
    simp only [Option.bind_some, same_refl a (by omega), same_refl b (by omega), same_refl c1 (by omega), same_refl d1 (by omega), same_refl g (by omega), same_refl (zs p q) (by omega), Bool.not_true, cond_false, cond_true, beq_self_eq_true]
  · have c : (decide ((p.length : Int) > 80) || decide ((q.length : Int) > 80)) = true := by
      simp only [Bool.or_eq_true, decide_eq_true_eq]; omega
    rw [c]; rfl
end Go.Lift.S17
