import Derived.Test.YtbdbjamebjbhnaaPF38
set_option linter.all false
/- The lists of call: Short, Excuses. -/
set_option linter.unusedSimpArgs false
set_option linter.unusedVariables false
namespace Go.Lift.S38
open Go Go.Lift Go.Lift.Ar Go.Lift.Gr

theorem shorts_loop_is (b : t_api_Basin.den) (ro : List t_api_Right.den) (s : List Int) (gr : List t_api_Point.den) (hn : nP b ≤ 16) (hro : ro.length ≤ 64) : ∀ (k i : Nat) (out : List Int), ro.length < i + k → i ≤ ro.length → out.length ≤ i →
    shorts_loop4 short of_ k gr ro (ro.length : Int) (i : Int) (b, ro, (), (), (), ()) (reL b ro) (goL ro gr) (lfL b (fw b ro s gr ro.length)) out = some (out ++ ((List.range' i (ro.length - i)).filter (isS b ro gr)).map fun j => idR (ro.getD j (Ty.zero t_api_Right))) := by
  intro k
  induction k with
  | zero => intro i out h hi; omega
  | succ k ih =>
    intro i out h hi0 ho
    unfold shorts_loop4 shorts_loop4_step
    by_cases hi : i < ro.length
    · have hsh := short_is b ro s gr i hi
      have hsh' : short (b, ro, reL b ro, goL ro gr, lfL b (fw b ro s gr ro.length), ()) (i : Int) (gr.length : Int) = some (isS b ro gr i) := hsh
      rw [range'_step i _ hi, List.filter_cons, inb _ _ hi, decide_eq_true (show (i : Int) < (ro.length : Int) by omega), Int.toNat_natCast]
      simp only [cond_true]
      rw [hsh']
      simp only [Option.bind_some]
      rw [app1, roomD (by rw [List.length_append]; simp; omega), wi_id ((i : Int) + 1) (by omega) (by omega)]
      cases isS b ro gr i
      · simp only [cond_false]
        exact ih (i + 1) out (by omega) (by omega) (by omega)
      · simp only [cond_true, if_true, List.map_cons]
        have := ih (i + 1) (out ++ [idR (ro.getD i (Ty.zero t_api_Right))]) (by omega) (by omega) (by rw [List.length_append]; simp; omega)
        rw [List.append_assoc] at this
        exact this
    · rw [decide_eq_false (show ¬ (i : Int) < (ro.length : Int) by omega), cond_false, range'_end i _ hi]
      simp

theorem shorts_is (b : t_api_Basin.den) (ro : List t_api_Right.den) (gr : List t_api_Point.den) (hn : nP b ≤ 16) (hro : ro.length ≤ 64) : shorts b ro gr = short_r b ro gr := by
  rw [short_r_is b ro gr hn hro]
  unfold shorts shorts_body
  have h1 := of_is b ro [] gr (fun x hx => by cases hx) hn hro
  have h1' : of_ b ro (nilOf Int) gr = _ := h1
  rw [h1']
  simp only [Option.bind_some, bind_eta]
  have := shorts_loop_is b ro [] gr hn hro FUEL 0 [] (fuel_gt _ (by omega)) (by omega) (by simp)
  rw [List.nil_append, Nat.sub_zero, ← List.range_eq_range'] at this
  exact this

theorem allEx8_is (b : t_api_Basin.den) (ro : List t_api_Right.den) (gr : List t_api_Point.den) (t20 : List t_api_Right.den) (t21 t22 : Int) (d : t_call_day.den) (i : Nat) (l : List Nat) (hl : ∀ k, k ∈ l → k < ro.length) (hll : l.length ≤ 64) : ∀ (k x : Nat) (out : List t_api_Point.den), l.length < x + k → x ≤ l.length → out.length ≤ 5000 + x →
    allEx_loop8 short later dstop of_ k ro gr t20 t21 t22 (toI l) (l.length : Int) (x : Int) d out (ro.getD i (Ty.zero t_api_Right)) = some (ro, gr, t20, t21, t22, d, out ++ (l.drop x).map (xc ro i)) := by
  intro k
  induction k with
  | zero => intro x out h hx; omega
  | succ k ih =>
    intro x out h hx0 ho
    unfold allEx_loop8 allEx_loop8_step
    have el : (toI l).length = l.length := by simp [toI]
    by_cases hx : x < l.length
    · have eg : (toI l).getD x 0 = ((l.getD x 0 : Nat) : Int) := by
        unfold toI
        rw [List.getD_eq_getElem?_getD, List.getD_eq_getElem?_getD, List.getElem?_map, List.getElem?_eq_getElem hx]; rfl
      have hm := hl _ (getD_mem l x 0 hx)
      rw [drop_cons l x 0 hx, el, inb _ _ hx, decide_eq_true (show (x : Int) < (l.length : Int) by omega), Int.toNat_natCast, eg, inb _ _ hm, Int.toNat_natCast]
      simp only [cond_true, List.map_cons]
      rw [app1, roomD (by rw [List.length_append]; simp; omega), wi_id ((x : Int) + 1) (by omega) (by omega)]
      simp only [cond_true]
      have := ih (x + 1) (out ++ [xc ro i (l.getD x 0)]) (by omega) (by omega) (by rw [List.length_append]; simp; omega)
      rw [List.append_assoc] at this
      exact this
    · rw [decide_eq_false (show ¬ (x : Int) < (l.length : Int) by omega), cond_false, List.drop_eq_nil_of_le (by omega)]
      simp

theorem allEx4_is (b : t_api_Basin.den) (ro : List t_api_Right.den) (s : List Int) (gr : List t_api_Point.den) (hs : ∀ x, x ∈ s → InR x) (hn : nP b ≤ 16) (hro : ro.length ≤ 64) : ∀ (k i : Nat) (out : List t_api_Point.den), ro.length < i + k → i ≤ ro.length → out.length ≤ 64 * i →
    allEx_loop4 short later dstop of_ k ro gr ro (ro.length : Int) (i : Int) (dv b ro s gr) out = some (out ++ (List.range' i (ro.length - i)).flatMap (exF b ro s gr)) := by
  intro k
  induction k with
  | zero => intro i out h hi; omega
  | succ k ih =>
    intro i out h hi0 ho
    unfold allEx_loop4 allEx_loop4_step
    by_cases hi : i < ro.length
    · rw [range'_step i _ hi, List.flatMap_cons, inb _ _ hi, decide_eq_true (show (i : Int) < (ro.length : Int) by omega), short_is b ro s gr i hi, dstop_is b ro s gr hs hn hro i hi, later_is b ro s gr hro i hi, Int.toNat_natCast]
      simp only [cond_true, Option.bind_some, sc_or]
      rw [wi_id ((i : Int) + 1) (by omega) (by omega)]
      have e : (!isS b ro gr i || decide (stopV b ro s gr i < 0)) = !(isS b ro gr i && decide (0 ≤ stopV b ro s gr i)) := by
        by_cases h1 : 0 ≤ stopV b ro s gr i
        · rw [decide_eq_true h1, decide_eq_false (show ¬ stopV b ro s gr i < 0 by omega)]; simp
        · rw [decide_eq_false h1, decide_eq_true (show stopV b ro s gr i < 0 by omega)]; simp
      rw [e]
      have hl := exF_len b ro s gr i
      have hF : exF b ro s gr i = bif isS b ro gr i && decide (0 ≤ stopV b ro s gr i) then (laterN gr ro.length i).map (xc ro i) else [] := rfl
      generalize (isS b ro gr i && decide (0 ≤ stopV b ro s gr i)) = c at *
      cases c
      · simp only [Bool.not_false, cond_true]
        rw [hF]
        exact ih (i + 1) out (by omega) (by omega) (by omega)
      · simp only [Bool.not_true, cond_false]
        have hF' : exF b ro s gr i = (laterN gr ro.length i).map (xc ro i) := hF
        have hll := laterN_len gr ro.length i
        have el : (toI (laterN gr ro.length i)).length = (laterN gr ro.length i).length := by simp [toI]
        have g : allEx_loop8 short later dstop of_ FUEL ro gr ro (ro.length : Int) (i : Int) (toI (laterN gr ro.length i)) ((laterN gr ro.length i).length : Int) 0 (dv b ro s gr) out (ro.getD i (Ty.zero t_api_Right)) = _ := allEx8_is b ro gr ro (ro.length : Int) (i : Int) (dv b ro s gr) i (laterN gr ro.length i) (fun k hk => (mem_later.1 hk).2.1) (by omega) FUEL 0 out (fuel_gt _ (by omega)) (by omega) (by omega)
        rw [el, g]
        simp only [Option.bind_some]
        rw [wi_id ((i : Int) + 1) (by omega) (by omega), List.drop_zero, ← hF', ← List.append_assoc]
        exact ih (i + 1) _ (by omega) (by omega) (by rw [List.length_append]; omega)
    · rw [decide_eq_false (show ¬ (i : Int) < (ro.length : Int) by omega), cond_false, range'_end i _ hi]
      simp

theorem allEx_is (b : t_api_Basin.den) (ro : List t_api_Right.den) (s : List Int) (gr : List t_api_Point.den) (hs : ∀ x, x ∈ s → InR x) (hn : nP b ≤ 16) (hro : ro.length ≤ 64) : allEx b ro s gr = some (exL b ro s gr) := by
  unfold allEx allEx_body
  rw [of_is b ro s gr hs hn hro]
  simp only [Option.bind_some, bind_eta]
  have := allEx4_is b ro s gr hs hn hro FUEL 0 [] (fuel_gt _ (by omega)) (by omega) (by simp)
  rw [List.nil_append, Nat.sub_zero, ← List.range_eq_range'] at this
  exact this
end Go.Lift.S38
