import Derived.Test.YtiaemilmhbgdpaaPM01
set_option linter.all false
/- The statement ExactSums. -/
set_option linter.unusedSimpArgs false
set_option linter.unusedVariables false
namespace Go.Lift.S01
open Go Go.Lift Go.Lift.Ar

theorem isum_reverse : ∀ l : List Int, isum l.reverse = isum l
  | [] => rfl
  | x :: l => by rw [List.reverse_cons, isum_append, isum_reverse l]; simp [isum]; omega

theorem take_snoc (l : List Int) (i : Nat) (h : i < l.length) : (l.take (i + 1)).reverse = l.getD i 0 :: (l.take i).reverse := by
  rw [List.take_succ_eq_append_getElem h, List.reverse_append, List.getD_eq_getElem?_getD, List.getElem?_eq_getElem h]; rfl

/-- Negated, as the statement does it. -/
def neg1 (x : Int) : Int := sat (0 - x)

theorem sums_loop10_is (l : List Int) (hr : ∀ x, x ∈ l → InR x) (hl : l.length ≤ 200) (a : Int) (head : Bool) (n : Int) (ok : Bool) (lim : Int) (sm : Option Bool) :
    ∀ (k i : Nat) (fine : Bool) (back minus : List Int), i < k → i ≤ l.length → back.length = l.length - i → minus.length = l.length - i →
      sums_loop10 add sub sum sm k l a head n ok lim fine ((i : Int) - 1) back minus = some (l, a, head, n, ok, lim, fine && (l.take i).all (fun x => decide (x > -9223372036854775808)), back ++ (l.take i).reverse, minus ++ ((l.take i).reverse.map neg1)) := by
  intro k
  induction k with
  | zero => intro i f b m h; omega
  | succ k ih =>
    intro i fine back minus h hi hb hm
    unfold sums_loop10 sums_loop10_step
    cases i with
    | zero =>
      have : decide (((0 : Nat) : Int) - 1 ≥ 0) = false := rfl
      rw [this]
      simp
    | succ i =>
      have e : ((i + 1 : Nat) : Int) - 1 = (i : Int) := by omega
      rw [e, Int.toNat_natCast]
      have hx := hr _ (getD_mem l i 0 (by omega))
      have hts := take_snoc l i (by omega)
      have hta : (l.take (i + 1)).all (fun x => decide (x > -9223372036854775808)) = ((l.take i).all (fun x => decide (x > -9223372036854775808)) && decide (l.getD i 0 > -9223372036854775808)) := by
        rw [← List.all_reverse, hts, List.all_cons, List.all_reverse, Bool.and_comm]
      rw [hts, hta, inb i l.length (by omega)]
      generalize l.getD i 0 = x at *
      rw [app1]
      have hge : decide ((i : Int) ≥ 0) = true := by simp
      rw [hge, roomD (by rw [List.length_append, hb]; simp; omega), sub_eq 0 x (by unfold InR; omega) hx]
      simp only [cond_true, Option.bind_some, sc_and]
      rw [app1, roomD (by rw [List.length_append, hm]; simp; omega), cond_true, wi_id ((i : Int) - 1) (by omega) (by omega)]
      rw [ih i _ (back ++ [x]) (minus ++ [sat (0 - x)]) (by omega) (by omega) (by rw [List.length_append, hb]; simp; omega) (by rw [List.length_append, hm]; simp; omega)]
      rw [List.map_cons, List.append_assoc, List.append_assoc]
      simp only [List.singleton_append, neg1, Option.some.injEq, Prod.mk.injEq, true_and, and_true]
      cases fine <;> cases decide (x > -9223372036854775808) <;> simp

/-- The limited additions. -/
theorem sums_loop17_is (l : List Int) (hr : ∀ x, x ∈ l → InR x) (hl : l.length ≤ 200) (a : Int) (head : Bool) (n : Int) (ok fine : Bool) (back minus : List Int) (sm : Option Bool) :
    ∀ (k i : Nat) (lim : Int) (inside : Bool), l.length < i + k → i ≤ l.length → InR lim → (inside = true → lim = isum (l.take i)) →
      ∃ lim' inside', sums_loop17 add sub sum sm k l a head n ok lim fine inside (i : Int) back minus = some (l, a, head, n, ok, lim', fine, inside', back, minus) ∧ InR lim' ∧ (inside' = true → lim' = isum l) := by
  intro k
  induction k with
  | zero => intro i f b m h; omega
  | succ k ih =>
    intro i lim inside h hi0 hlim hin
    unfold sums_loop17 sums_loop17_step
    rw [Int.toNat_natCast]
    by_cases hi : i < l.length
    · have hx := hr _ (getD_mem l i 0 hi)
      have hts : isum (l.take (i + 1)) = isum (l.take i) + l.getD i 0 := by
        rw [← isum_reverse, take_snoc l i hi]
        simp only [isum, isum_reverse]; omega
      rw [inb _ _ hi]
      generalize l.getD i 0 = x at *
      have hi' : (i : Int) < (l.length : Int) := by omega
      simp only [hi', decide_true, cond_true, add_eq lim x hlim hx, Option.bind_some, sc_and]
      rw [wi_id ((i : Int) + 1) (by omega) (by omega)]
      refine ih (i + 1) _ _ (by omega) (by omega) (sat_in _) fun hh => ?_
      simp only [Bool.and_eq_true, decide_eq_true_eq] at hh
      have := hin hh.1.1
      rw [hts, ← this]
      have c := sat_cases (lim + x)
      omega
    · have hi' : ¬ (i : Int) < (l.length : Int) := by omega
      simp only [hi', decide_false, cond_false]
      refine ⟨lim, inside, rfl, hlim, fun hh => ?_⟩
      rw [hin hh, List.take_of_length_le (by omega)]

theorem isum_neg : ∀ l : List Int, (∀ x, x ∈ l → InR x) → l.all (fun x => decide (x > -9223372036854775808)) = true → isum (l.map neg1) = - isum l
  | [], _, _ => rfl
  | x :: l, h, ha => by
    simp only [List.all_cons, Bool.and_eq_true, decide_eq_true_eq] at ha
    have hx := h x (by simp)
    unfold InR at hx
    have ih := isum_neg l (fun y hy => h y (by simp [hy])) ha.2
    have hn : neg1 x = -x := by unfold neg1; rw [sat_of (by unfold InR; omega)]; omega
    simp only [List.map_cons, isum, ih, hn]; omega

theorem sums_true (l : List Int) (a : Int) (hr : ∀ x, x ∈ l → InR x) (hl : l.length ≤ 9223372036854775807) : sums l a = some true := by
  unfold sums sums_body
  simp only [small_true, Option.bind_some]
  by_cases h200 : (l.length : Int) > 200
  · rw [decide_eq_true h200]; rfl
  · rw [decide_eq_false h200, cond_false]
    have hlen : l.length ≤ 200 := by omega
    have hsum := sum_eq l hr hl
    obtain ⟨n, ok, hno⟩ : ∃ n ok, (if -9223372036854775808 ≤ isum l ∧ isum l ≤ 9223372036854775807 then (isum l, true) else ((0 : Int), false)) = (n, ok) := ⟨_, _, rfl⟩
    rw [hno] at hsum
    have hok : (ok = true ∧ n = isum l ∧ InR n) ∨ (ok = false ∧ n = 0 ∧ ¬ InR (isum l)) := by
      unfold InR
      split at hno
      · cases hno; rename_i h; exact .inl ⟨rfl, rfl, h⟩
      · cases hno; rename_i h; exact .inr ⟨rfl, rfl, h⟩
    rw [hsum]
    simp only [Option.bind_some]
    have hw : wi ((l.length : Int) - 1) = (l.length : Int) - 1 := wi_id _ (by omega) (by omega)
    have g10 : sums_loop10 add sub sum (some true) FUEL l a true n ok 0 true ((l.length : Int) - 1) (nilOf Int) (nilOf Int) = _ := sums_loop10_is l hr hlen a true n ok 0 (some true) FUEL l.length true [] [] (by have : FUEL = 18446744073709551616 := rfl; omega) (Nat.le_refl _) (by simp) (by simp)
    rw [hw, g10]
    simp only [Option.bind_some]
    rw [List.take_length]
    generalize hfine : (true && l.all fun x => decide (x > -9223372036854775808)) = fine
    obtain ⟨lim, ins, g17, hlim, hins⟩ := sums_loop17_is l hr hlen a true n ok fine ([] ++ l.reverse) ([] ++ l.reverse.map neg1) (some true) FUEL 0 0 true (fuel_gt _ (by omega)) (by omega) (by unfold InR; omega) (fun _ => rfl)
    have g17' : sums_loop17 add sub sum (some true) FUEL l a true n ok 0 fine true 0 ([] ++ l.reverse) ([] ++ l.reverse.map neg1) = _ := g17
    rw [g17']
    simp only [Option.bind_some, List.nil_append]
    have hrev : ∀ x, x ∈ l.reverse → InR x := fun x hx => hr x (List.mem_reverse.1 hx)
    have s2 : sum l.reverse = some (n, ok) := by
      rw [sum_eq _ hrev (by rw [List.length_reverse]; exact hl), isum_reverse, hno]
    have hneg : ∀ x, x ∈ l.reverse.map neg1 → InR x := fun x hx => by
      obtain ⟨y, _, rfl⟩ := List.mem_map.1 hx
      exact sat_in _
    have s3 := sum_eq _ hneg (by simp; omega)
    obtain ⟨kk, as', hk⟩ : ∃ n ok, (if -9223372036854775808 ≤ isum (l.reverse.map neg1) ∧ isum (l.reverse.map neg1) ≤ 9223372036854775807 then (isum (l.reverse.map neg1), true) else ((0 : Int), false)) = (n, ok) := ⟨_, _, rfl⟩
    rw [hk] at s3
    -- the last condition
    have last : (!fine || !ok || !as' || (kk == wi (0 - n))) = true := by
      cases hf : fine
      · rfl
      cases ho : ok
      · rfl
      cases ha : as'
      · rfl
      rw [hf] at hfine
      rcases hok with ⟨_, hn, hN⟩ | ⟨h, _⟩
      · have hall : l.all (fun x => decide (x > -9223372036854775808)) = true := by simpa using hfine
        have e1 : isum (l.reverse.map neg1) = - isum l := by
          rw [isum_neg _ hrev (by rw [List.all_reverse]; exact hall), isum_reverse]
        rw [ha] at hk
        split at hk
        · rename_i hc
          cases hk
          rw [e1] at hc ⊢
          rw [← hn] at hc ⊢
          have : wi (0 - n) = -n := by rw [wi_id _ (by omega) (by omega)]; omega
          rw [this]
          simp
        · cases hk
      · rw [ho] at h; cases h
    have mid : (ins && (!ok || n != lim)) = false := by
      cases hi : ins
      · rfl
      · have := hins hi
        unfold InR at hlim hok
        rcases hok with ⟨h1, h2, h3⟩ | ⟨h1, h2, h3⟩
        · rw [h1, h2, this]; simp
        · exfalso; apply h3; omega
    rw [s2, s3]
    simp only [Option.bind_some, bne_self_eq_false, cond_false, sc_or, sc_and, Bool.not_true, beq_self_eq_true]
    have mid' : (ins && (!ok || n != lim)) = false := mid
    have e0 : ((!ok == ok) : Bool) = false := by cases ok <;> rfl
    by_cases hat : 0 ≤ a ∧ a ≤ (l.length : Int)
    · obtain ⟨t, rfl⟩ := Int.eq_ofNat_of_zero_le hat.1
      have q1 : decide ((t : Int) ≥ 0) = true := decide_eq_true hat.1
      have q2 : decide ((t : Int) ≤ (l.length : Int)) = true := decide_eq_true hat.2
      have q3 : decide ((0 : Int) ≤ (t : Int)) = true := decide_eq_true hat.1
      have q4 : decide ((l.length : Int) ≤ (l.length : Int)) = true := decide_eq_true (Int.le_refl _)
      have r1 : ∀ x, x ∈ l.take t → InR x := fun x hx => hr x (List.mem_of_mem_take hx)
      have r2 : ∀ x, x ∈ l.drop t → InR x := fun x hx => hr x (List.mem_of_mem_drop hx)
      have hsplit : isum (l.take t) + isum (l.drop t) = isum l := by rw [← isum_append, List.take_append_drop]
      have p1 := sum_eq _ r1 (by rw [List.length_take]; omega)
      have p2 := sum_eq _ r2 (by rw [List.length_drop]; omega)
      obtain ⟨x, one, hx⟩ : ∃ n ok, (if -9223372036854775808 ≤ isum (l.take t) ∧ isum (l.take t) ≤ 9223372036854775807 then (isum (l.take t), true) else ((0 : Int), false)) = (n, ok) := ⟨_, _, rfl⟩
      obtain ⟨y, two, hy⟩ : ∃ n ok, (if -9223372036854775808 ≤ isum (l.drop t) ∧ isum (l.drop t) ≤ 9223372036854775807 then (isum (l.drop t), true) else ((0 : Int), false)) = (n, ok) := ⟨_, _, rfl⟩
      rw [hx] at p1
      rw [hy] at p2
      have ix : InR x := by unfold InR; split at hx <;> cases hx <;> omega
      have iy : InR y := by unfold InR; split at hy <;> cases hy <;> omega
      have p3 := sum_eq [x, y] (fun z hz => by
        rcases List.mem_cons.1 hz with rfl | hz
        · exact ix
        · rw [List.mem_singleton.1 hz]; exact iy) (by simp)
      obtain ⟨z, three, hz⟩ : ∃ n ok, (if -9223372036854775808 ≤ isum [x, y] ∧ isum [x, y] ≤ 9223372036854775807 then (isum [x, y], true) else ((0 : Int), false)) = (n, ok) := ⟨_, _, rfl⟩
      rw [hz] at p3
      have third : ((one && two) && (z != n || !three == ok)) = false := by
        cases h1 : one
        · rfl
        cases h2 : two
        · rfl
        have ex : x = isum (l.take t) := by rw [h1] at hx; split at hx <;> cases hx; rfl
        have ey : y = isum (l.drop t) := by rw [h2] at hy; split at hy <;> cases hy; rfl
        have es : isum [x, y] = isum l := by rw [ex, ey, ← hsplit]; simp [isum]
        rw [es, hno] at hz
        cases hz
        simp [e0]
      have p3' : sum (x :: y :: nilOf Int) = some (z, three) := p3
      simp only [q1, q2, q3, q4, Bool.and_self, cond_true, Int.toNat_natCast, List.drop_zero, List.take_length, p1, p2, p3', Option.bind_some, sc_or, sc_and, e0, mid', Bool.or_self, Bool.false_or, Bool.or_false, cond_false, Bool.true_and]
      rw [third, cond_false, last]
    · have q : (decide (a ≥ 0) && decide (a ≤ (l.length : Int))) = false := by
        cases hh : (decide (a ≥ 0) && decide (a ≤ (l.length : Int)))
        · rfl
        · simp only [Bool.and_eq_true, decide_eq_true_eq] at hh; exact absurd hh hat
      simp only [Bool.or_self, Bool.false_or, mid', cond_false, q, last, Bool.and_self]
end Go.Lift.S01
