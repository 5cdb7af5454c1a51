import Derived.Test.YtgccfcpcnanlpaaPX17
set_option linter.all false
/- The statement PoolGives. -/
set_option linter.unusedSimpArgs false
set_option linter.unusedVariables false
namespace Go.Lift.S17
open Go Go.Lift Go.Lift.Ar

theorem isum_set : ∀ (l : List Int) (i : Nat) (v : Int), i < l.length → isum (l.set i v) = isum l - l.getD i 0 + v
  | [], i, v, h => by simp at h
  | x :: l, 0, v, _ => by simp only [List.set_cons_zero, isum, List.getD_cons_zero]; omega
  | x :: l, i + 1, v, h => by
    have := isum_set l i v (by simpa using h)
    simp only [List.set_cons_succ, isum, List.getD_cons_succ, this]; omega

def gm (p : List Int) (f : Nat) (n : Int) : Int := if p.getD f 0 < n then p.getD f 0 else n
def giveL (p : List Int) (f t : Nat) (n : Int) : List Int := if gm p f n > 0 then (p.set f (p.getD f 0 - gm p f n)).set t (p.getD t 0 + gm p f n) else p
theorem giveL_length (p : List Int) (f t : Nat) (n : Int) : (giveL p f t n).length = p.length := by unfold giveL; split <;> simp

theorem give_eq (p : List Int) (f t : Nat) (n : Int) (hp : p.length ≤ 16) (hf : Fit p) (h1 : f < p.length) (h2 : t < p.length) (hne : f ≠ t) : give p (f : Int) (t : Int) n = some (giveL p f t n) := by
  have hds : ds p [] = p := ext_getD (ds_length _ _) fun i hi => by
    rw [ds_getD _ _ _ (by simpa [ds_length] using hi)]; simp
  have hl : less p (nilOf Int) = some p := by
    have := less_eq p [] (by omega) (by simp) (fun j => by have := Fit_getD hf j; have h0 : ([] : List Int).getD j 0 = 0 := rfl; rw [h0]; unfold InR; omega)
    rw [hds] at this
    exact this
  have hpf := Fit_getD hf f
  have hpt := Fit_getD hf t
  have hh : hasI p (f : Int) = p.getD f 0 := by
    unfold hasI; rw [if_pos (by omega), Int.toNat_natCast]; split <;> omega
  unfold give give_body
  rw [hl, has_eq, hh]
  simp only [Option.bind_some, sc_and]
  have hm : (if p.getD f 0 < n then p.getD f 0 else n) = gm p f n := rfl
  rw [hm]
  have hmb : gm p f n ≤ p.getD f 0 := by unfold gm; split <;> omega
  have c1 : decide ((t : Int) ≥ 0) = true := decide_eq_true (by omega)
  have c2 : decide ((t : Int) < (p.length : Int)) = true := decide_eq_true (by omega)
  have c3 : ((t : Int) != (f : Int)) = true := by simp; omega
  rw [c1, c2, c3]
  unfold giveL
  by_cases h : gm p f n > 0
  · rw [decide_eq_true h, if_pos h, inb f p.length h1, Int.toNat_natCast, Int.toNat_natCast, Nat.zero_add, Nat.zero_add]
    have hset : (p.set f (p.getD f 0 - gm p f n)).getD t 0 = p.getD t 0 := by rw [getD_set, if_neg (fun hh => hne hh.1)]
    rw [wi_id (p.getD f 0 - gm p f n) (by omega) (by omega), List.length_set, c2, hset, add_eq _ _ (by unfold InR; omega) (by unfold InR; omega), sat_of (by unfold InR; omega)]
    rfl
  · rw [decide_eq_false h, if_neg h]
    rfl

theorem gives_loop_is (p q : List Int) (hp : p.length ≤ 16) (hq : q.length = p.length) (f t : Nat) (n : Int) (h : ∀ i, i ≠ f → i ≠ t → q.getD i 0 = p.getD i 0) (sm : Option Bool) :
    ∀ (k i : Nat), p.length < i + k → i ≤ p.length → gives_loop8 same right_ total give sm k p (f : Int) (t : Int) n true q (i : Int) = some (.inl (p, (f : Int), (t : Int), n, true, q)) := by
  intro k
  induction k with
  | zero => intro i h hi; omega
  | succ k ih =>
    intro i h' hi0
    unfold gives_loop8 gives_loop8_step
    rw [Int.toNat_natCast]
    by_cases hi : i < p.length
    · have hi' : (i : Int) < (p.length : Int) := by omega
      have nx := ih (i + 1) (by omega) (by omega)
      have hw : wi ((i : Int) + 1) = ((i + 1 : Nat) : Int) := wi_id _ (by omega) (by omega)
      have hlt : decide ((i : Int) < (p.length : Int)) = true := decide_eq_true hi'
      rw [inb i p.length hi, inb i q.length (by omega), hlt, hw]
      by_cases c1 : i = f
      · have e1 : ((i : Int) != (f : Int)) = false := by simp; omega
        rw [e1]
        simp only [cond_true, cond_false, Option.bind_some]
        exact nx
      · have e1 : ((i : Int) != (f : Int)) = true := by simp; omega
        rw [e1]
        by_cases c2 : i = t
        · have e2 : ((i : Int) != (t : Int)) = false := by simp; omega
          rw [e2]
          simp only [cond_true, cond_false, Option.bind_some]
          exact nx
        · have e2 : ((i : Int) != (t : Int)) = true := by simp; omega
          rw [e2, h i c1 c2, bne_self_eq_false]
          simp only [cond_true, cond_false, Option.bind_some]
          exact nx
    · have hi' : ¬ (i : Int) < (p.length : Int) := by omega
      simp only [hi', decide_false, cond_false]

theorem gives_true (p : List Int) (fI tI n : Int) (hr : ∀ x, x ∈ p → InR x) (hl : p.length ≤ 9223372036854775807) : gives p fI tI n = some true := by
  unfold gives gives_body
  rw [small_true]
  simp only [Option.bind_some]
  rw [right__eq p _ hr hl]
  by_cases hc : (0 : Int) ≤ (p.length : Int) ∧ (p.length : Int) ≤ 16 ∧ (p.length : Int) = (p.length : Int) ∧ Fit p
  · rw [decide_eq_true hc]
    obtain ⟨_, h16, _, hf⟩ := hc
    simp only [Option.bind_some, Bool.not_true, cond_false, sc_or, Bool.false_or]
    by_cases hg : (decide (fI < 0) || decide (fI ≥ (p.length : Int)) || decide (tI < 0) || decide (tI ≥ (p.length : Int)) || (fI == tI)) = true
    · rw [hg]; rfl
    · rw [Bool.not_eq_true] at hg
      rw [hg, cond_false]
      simp only [Bool.or_eq_false_iff, decide_eq_false_iff_not, beq_eq_false_iff_ne] at hg
      obtain ⟨⟨⟨⟨q1, q2⟩, q3⟩, q4⟩, q5⟩ := hg
      obtain ⟨f, rfl⟩ := Int.eq_ofNat_of_zero_le (show 0 ≤ fI by omega)
      obtain ⟨t, rfl⟩ := Int.eq_ofNat_of_zero_le (show 0 ≤ tI by omega)
      have hft : f ≠ t := fun e => q5 (by rw [e])
      have hfl : f < p.length := by omega
      have htl : t < p.length := by omega
      rw [give_eq p f t n (by omega) hf hfl htl hft]
      have hpf := Fit_getD hf f
      have hpt := Fit_getD hf t
      have hgl := giveL_length p f t n
      -- what is given
      obtain ⟨g, hg0, hgf, hgn, hqt, hqf, hqo⟩ : ∃ g : Int, 0 ≤ g ∧ g ≤ p.getD f 0 ∧ g ≤ (if n > 0 then n else 0) ∧ (giveL p f t n).getD t 0 = p.getD t 0 + g ∧ (giveL p f t n).getD f 0 = p.getD f 0 - g ∧ ∀ i, i ≠ f → i ≠ t → (giveL p f t n).getD i 0 = p.getD i 0 := by
        unfold giveL
        by_cases h : gm p f n > 0
        · have hm1 : gm p f n ≤ p.getD f 0 := by unfold gm; split <;> omega
          have hm2 : gm p f n ≤ n := by unfold gm; split <;> omega
          refine ⟨gm p f n, by omega, hm1, by rw [if_pos (by omega)]; exact hm2, ?_, ?_, fun i h1 h2 => ?_⟩
          · rw [if_pos h, getD_set, if_pos ⟨rfl, by simpa using htl⟩]
          · rw [if_pos h, getD_set, if_neg (fun hh => hft hh.1.symm), getD_set, if_pos ⟨rfl, hfl⟩]
          · rw [if_pos h, getD_set, if_neg (fun hh => h2 hh.1.symm), getD_set, if_neg (fun hh => h1 hh.1.symm)]
        · refine ⟨0, by omega, by omega, by split <;> omega, ?_, ?_, fun i _ _ => ?_⟩ <;> rw [if_neg h] <;> omega
      have hqn : ∀ x, x ∈ giveL p f t n → 0 ≤ x := fun x hx => by
        obtain ⟨i, hi, rfl⟩ := List.getElem_of_mem hx
        have e : (giveL p f t n)[i] = (giveL p f t n).getD i 0 := by rw [List.getD_eq_getElem?_getD, List.getElem?_eq_getElem hi]; rfl
        rw [e]
        by_cases h1 : i = f
        · rw [h1, hqf]; omega
        · by_cases h2 : i = t
          · rw [h2, hqt]; omega
          · rw [hqo i h1 h2]; exact (Fit_getD hf i).1
      have hqs : isum (giveL p f t n) = isum p := by
        have e : giveL p f t n = (p.set f (p.getD f 0 - g)).set t (p.getD t 0 + g) := by
          refine ext_getD (by simp [hgl]) fun i hi => ?_
          rw [getD_set, getD_set]
          by_cases h2 : t = i
          · subst h2; rw [if_pos ⟨rfl, by simpa using htl⟩, hqt]
          · rw [if_neg (fun hh => h2 hh.1)]
            by_cases h1 : f = i
            · subst h1; rw [if_pos ⟨rfl, hfl⟩, hqf]
            · rw [if_neg (fun hh => h1 hh.1), hqo i (fun hh => h1 hh.symm) (fun hh => h2 hh.symm)]
        rw [e, isum_set _ _ _ (by simpa using htl), isum_set _ _ _ hfl, getD_set, if_neg (fun hh => hft hh.1)]
        omega
      have hqF : Fit (giveL p f t n) := ⟨hqn, by rw [hqs]; exact hf.2⟩
      generalize hQ : giveL p f t n = q at *
      simp only [Option.bind_some, hgl, bne_self_eq_false, cond_false]
      rw [total_fit (by omega) hqn (by have := hqF.2; omega), total_fit (by omega) hf.1 (by have := hf.2; omega), hqs]
      simp only [Option.bind_some, bne_self_eq_false, cond_false]
      have gl : gives_loop8 same right_ total give (some true) FUEL p (f : Int) (t : Int) n true q 0 = _ := gives_loop_is p q (by omega) hgl f t n hqo (some true) FUEL 0 (fuel_gt _ hl) (by omega)
      rw [gl]
      simp only [Option.bind_some, Sum.elim, Int.toNat_natCast]
      rw [inb t q.length (by omega), inb t p.length htl, inb f q.length (by omega)]
      have hwg : wi (p.getD t 0 + g - p.getD t 0) = g := by rw [wi_id _ (by omega) (by omega)]; omega
      have hback : giveL q t f g = p := by
        have hgm : gm q t g = g := by unfold gm; rw [hqt]; split <;> omega
        refine ext_getD (by rw [giveL_length]; exact hgl) fun i hi => ?_
        unfold giveL
        rw [hgm]
        by_cases hgp : g > 0
        · rw [if_pos hgp, getD_set, getD_set, hqt, hqf]
          by_cases h1 : f = i
          · subst h1; rw [if_pos ⟨rfl, by simp; omega⟩]; omega
          · rw [if_neg (fun hh => h1 hh.1)]
            by_cases h2 : t = i
            · subst h2; rw [if_pos ⟨rfl, by omega⟩]; omega
            · rw [if_neg (fun hh => h2 hh.1), hqo i (fun hh => h1 hh.symm) (fun hh => h2 hh.symm)]
        · rw [if_neg hgp]
          by_cases h1 : i = f
          · rw [h1, hqf]; omega
          · by_cases h2 : i = t
            · rw [h2, hqt]; omega
            · exact hqo i h1 h2
      have hgive := give_eq q t f g (by omega) hqF (by omega) (by omega) (Ne.symm hft)
      rw [hback] at hgive
      simp only [hqt, hqf, hwg, cond_true, hgive, Option.bind_some, same_refl p hl, sc_and, Option.some.injEq, Bool.and_eq_true, decide_eq_true_eq, Bool.true_and, Bool.and_true, and_true, true_and]
      exact ⟨⟨hg0, hgn⟩, by omega⟩
  · rw [decide_eq_false hc]
    rfl
end Go.Lift.S17
