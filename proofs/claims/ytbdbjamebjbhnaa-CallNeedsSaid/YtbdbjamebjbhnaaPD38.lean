import Derived.Test.YtbdbjamebjbhnaaPC38
set_option linter.all false
/- The excuses of the reference, seat 38. -/
set_option linter.unusedSimpArgs false
set_option linter.unusedVariables false
namespace Go.Lift.S38
open Go Go.Lift Go.Lift.Ar Go.Lift.Gr

theorem range'_step (i m : Nat) (h : i < m) : List.range' i (m - i) = i :: List.range' (i + 1) (m - (i + 1)) := by
  rw [show m - i = (m - (i + 1)) + 1 by omega, List.range'_succ]
theorem range'_end (i m : Nat) (h : ¬ i < m) : List.range' i (m - i) = [] := by
  rw [show m - i = 0 by omega]; rfl

noncomputable def stopV (b : t_api_Basin.den) (ro : List t_api_Right.den) (s : List Int) (gr : List t_api_Point.den) (i : Nat) : Int := (stop_r b ro s gr (i : Int)).getD (-1)
theorem stopV_is (b : t_api_Basin.den) (ro : List t_api_Right.den) (s : List Int) (gr : List t_api_Point.den) (i : Nat) (hs : ∀ x, x ∈ s → InR x) (hn : nP b ≤ 16) (hro : ro.length ≤ 64) (hi : i < ro.length) :
    stop_r b ro s gr (i : Int) = some (stopV b ro s gr i) ∧ IsStop b ro s gr i (stopV b ro s gr i) := by
  obtain ⟨r, h1, h2⟩ := stop_r_is b ro s gr i hs hn hro hi
  have : stopV b ro s gr i = r := by unfold stopV; rw [h1]; rfl
  rw [this]
  exact ⟨h1, h2⟩

/-- The later rights that have water. -/
def laterN (gr : List t_api_Point.den) (m i : Nat) : List Nat := (List.range' (i + 1) (m - (i + 1))).filter fun k => decide (0 < gotF gr k)
theorem mem_later {gr : List t_api_Point.den} {m i k : Nat} : k ∈ laterN gr m i ↔ i < k ∧ k < m ∧ 0 < gotF gr k := by
  unfold laterN
  rw [List.mem_filter, List.mem_range'_1, decide_eq_true_eq]
  constructor
  · rintro ⟨⟨h1, h2⟩, h3⟩; exact ⟨by omega, by omega, h3⟩
  · rintro ⟨h1, h2, h3⟩; exact ⟨⟨by omega, by omega⟩, h3⟩

def xc (ro : List t_api_Right.den) (i k : Nat) : t_api_Point.den := (idR (ro.getD i (Ty.zero t_api_Right)), idR (ro.getD k (Ty.zero t_api_Right)), ())
noncomputable def exF (b : t_api_Basin.den) (ro : List t_api_Right.den) (s : List Int) (gr : List t_api_Point.den) (i : Nat) : List t_api_Point.den :=
  bif isS b ro gr i && decide (0 ≤ stopV b ro s gr i) then (laterN gr ro.length i).map (xc ro i) else []
noncomputable def exL (b : t_api_Basin.den) (ro : List t_api_Right.den) (s : List Int) (gr : List t_api_Point.den) : List t_api_Point.den := (List.range ro.length).flatMap (exF b ro s gr)

theorem exc8_is (b : t_api_Basin.den) (ro : List t_api_Right.den) (s : List Int) (gr : List t_api_Point.den) (hro : ro.length ≤ 64) (i : Nat) (hi : i < ro.length) : ∀ (k j : Nat) (out : List t_api_Point.den), ro.length < j + k → j ≤ ro.length → out.length ≤ 5000 + j →
    excuses_r_loop8 got_r is_r stop_r k ro s gr (i : Int) (j : Int) b out = some (ro, s, gr, (i : Int), b, out ++ ((List.range' j (ro.length - j)).filter fun k => decide (0 < gotF gr k)).map (xc ro i)) := by
  intro k
  induction k with
  | zero => intro j out h hj; omega
  | succ k ih =>
    intro j out h hj0 ho
    unfold excuses_r_loop8 excuses_r_loop8_step
    by_cases hj : j < ro.length
    · rw [range'_step j _ hj, List.filter_cons, inb _ _ hi, inb _ _ hj, decide_eq_true (show (j : Int) < (ro.length : Int) by omega), got_r_is, Int.toNat_natCast, Int.toNat_natCast]
      simp only [cond_true, Option.bind_some]
      rw [app1, roomD (by rw [List.length_append]; simp; omega), wi_id ((j : Int) + 1) (by omega) (by omega)]
      by_cases hg : 0 < gotF gr j
      · rw [decide_eq_true (show gotF gr j > 0 from hg)]
        simp only [cond_true, if_true, List.map_cons]
        have := ih (j + 1) (out ++ [xc ro i j]) (by omega) (by omega) (by rw [List.length_append]; simp; omega)
        rw [List.append_assoc] at this
        exact this
      · rw [decide_eq_false (show ¬ gotF gr j > 0 from hg)]
        simp only [cond_false]
        exact ih (j + 1) out (by omega) (by omega) (by omega)
    · rw [decide_eq_false (show ¬ (j : Int) < (ro.length : Int) by omega), cond_false, range'_end j _ hj]
      simp

theorem exF_len (b : t_api_Basin.den) (ro : List t_api_Right.den) (s : List Int) (gr : List t_api_Point.den) (i : Nat) : (exF b ro s gr i).length ≤ ro.length := by
  unfold exF
  cases (isS b ro gr i && decide (0 ≤ stopV b ro s gr i))
  · simp
  · simp only [cond_true, List.length_map]
    unfold laterN
    have := List.length_filter_le (fun k => decide (0 < gotF gr k)) (List.range' (i + 1) (ro.length - (i + 1)))
    rw [List.length_range'] at this
    omega

theorem exc3_is (b : t_api_Basin.den) (ro : List t_api_Right.den) (s : List Int) (gr : List t_api_Point.den) (hs : ∀ x, x ∈ s → InR x) (hn : nP b ≤ 16) (hro : ro.length ≤ 64) : ∀ (k i : Nat) (out : List t_api_Point.den), ro.length < i + k → i ≤ ro.length → out.length ≤ 64 * i →
    excuses_r_loop3 got_r is_r stop_r k ro s gr (i : Int) b out = some (out ++ (List.range' i (ro.length - i)).flatMap (exF b ro s gr)) := by
  intro k
  induction k with
  | zero => intro i out h hi; omega
  | succ k ih =>
    intro i out h hi0 ho
    unfold excuses_r_loop3 excuses_r_loop3_step
    by_cases hi : i < ro.length
    · rw [range'_step i _ hi, List.flatMap_cons, decide_eq_true (show (i : Int) < (ro.length : Int) by omega), is_r_is b ro gr hn i hi, (stopV_is b ro s gr i hs hn hro hi).1]
      simp only [cond_true, Option.bind_some, sc_or]
      rw [wi_id ((i : Int) + 1) (by omega) (by omega)]
      have e : (!isS b ro gr i || decide (stopV b ro s gr i < 0)) = !(isS b ro gr i && decide (0 ≤ stopV b ro s gr i)) := by
        by_cases h1 : 0 ≤ stopV b ro s gr i
        · rw [decide_eq_true h1, decide_eq_false (show ¬ stopV b ro s gr i < 0 by omega)]; simp
        · rw [decide_eq_false h1, decide_eq_true (show stopV b ro s gr i < 0 by omega)]; simp
      rw [e]
      have hl := exF_len b ro s gr i
      have hF : exF b ro s gr i = bif isS b ro gr i && decide (0 ≤ stopV b ro s gr i) then (laterN gr ro.length i).map (xc ro i) else [] := rfl
      generalize (isS b ro gr i && decide (0 ≤ stopV b ro s gr i)) = c at *
      cases c
      · simp only [Bool.not_false, cond_true]
        rw [hF]
        exact ih (i + 1) out (by omega) (by omega) (by omega)
      · simp only [Bool.not_true, cond_false]
        have g : excuses_r_loop8 got_r is_r stop_r FUEL ro s gr (i : Int) ((i : Int) + 1) b out = _ := exc8_is b ro s gr hro i hi FUEL (i + 1) out (by have := fuel_gt ro.length (by omega); omega) (by omega) (by omega)
        rw [g]
        simp only [Option.bind_some]
        rw [wi_id ((i : Int) + 1) (by omega) (by omega)]
        have hF' : exF b ro s gr i = ((List.range' (i + 1) (ro.length - (i + 1))).filter fun k => decide (0 < gotF gr k)).map (xc ro i) := hF
        rw [← hF', ← List.append_assoc]
        exact ih (i + 1) _ (by omega) (by omega) (by rw [List.length_append]; omega)
    · rw [decide_eq_false (show ¬ (i : Int) < (ro.length : Int) by omega), cond_false, range'_end i _ hi]
      simp

theorem excuses_r_is (b : t_api_Basin.den) (ro : List t_api_Right.den) (s : List Int) (gr : List t_api_Point.den) (hs : ∀ x, x ∈ s → InR x) (hn : nP b ≤ 16) (hro : ro.length ≤ 64) : excuses_r b ro s gr = some (exL b ro s gr) := by
  unfold excuses_r excuses_r_body
  rw [bind_eta]
  have := exc3_is b ro s gr hs hn hro FUEL 0 [] (fuel_gt _ (by omega)) (by omega) (by simp)
  rw [List.nil_append, Nat.sub_zero, ← List.range_eq_range'] at this
  exact this
end Go.Lift.S38
