import Derived.Test.YtbdbjamebjbhnaaPJ38
set_option linter.all false
/- call.Check. -/
set_option linter.unusedSimpArgs false
set_option linter.unusedVariables false
namespace Go.Lift.S38
open Go Go.Lift Go.Lift.Ar Go.Lift.Gr

abbrev grA (gr : List t_api_Point.den) (i : Nat) : t_api_Point.den := gr.getD i (Ty.zero t_api_Point)
abbrev roA (ro : List t_api_Right.den) (i : Nat) : t_api_Right.den := ro.getD i (Ty.zero t_api_Right)

theorem okG_iff (b : t_api_Basin.den) (ro : List t_api_Right.den) (s : List Int) (gr : List t_api_Point.den) (i : Nat) (m : Int) (hm : m = mostI b ro i) :
    ((grA gr i).1 != (roA ro i).1 || (decide (gotF gr i < 0) || (decide (gotF gr i > m) || (isS b ro gr i && decide (stopV b ro s gr i < 0))))) = false ↔ OkG b ro s gr i := by
  unfold OkG
  rw [hm, Bool.or_eq_false_iff, Bool.or_eq_false_iff, Bool.or_eq_false_iff, Bool.and_eq_false_iff, bne_eq_false_iff_eq, decide_eq_false_iff_not, decide_eq_false_iff_not, decide_eq_false_iff_not]
  show (_ = idR (ro.getD i (Ty.zero t_api_Right))) ∧ _ ↔ _
  refine and_congr Iff.rfl (and_congr (by omega) (and_congr (by omega) ?_))
  constructor
  · rintro (h | h) h2
    · rw [h] at h2; cases h2
    · omega
  · intro h
    cases hh : isS b ro gr i
    · exact .inl rfl
    · right; have := h hh; omega

theorem chk7_is (b : t_api_Basin.den) (ro : List t_api_Right.den) (s : List Int) (gr ex : List t_api_Point.den) (hs : ∀ x, x ∈ s → InR x) (hn : nP b ≤ 16) (hro : ro.length ≤ 64) (hl : gr.length = ro.length) : ∀ (k i : Nat), ro.length < i + k → i ≤ ro.length →
    (check_loop7 short containsX containsM dstop containsN of_ allEx k ro s gr ex ro (ro.length : Int) (i : Int) b (b, ro, (), (), (), ()) (reL b ro) (goL ro gr) (lfL b (fw b ro s gr ro.length)) = some (.inl (ro, s, gr, ex, b)) ∧ ∀ j, i ≤ j → j < ro.length → OkG b ro s gr j) ∨
    (check_loop7 short containsX containsM dstop containsN of_ allEx k ro s gr ex ro (ro.length : Int) (i : Int) b (b, ro, (), (), (), ()) (reL b ro) (goL ro gr) (lfL b (fw b ro s gr ro.length)) = some (.inr false) ∧ ¬ ∀ j, i ≤ j → j < ro.length → OkG b ro s gr j) := by
  intro k
  induction k with
  | zero => intro i h hi; omega
  | succ k ih =>
    intro i h hi0
    unfold check_loop7 check_loop7_step
    by_cases hi : i < ro.length
    · have hsh := short_is b ro s gr i hi
      have hsh' : short (b, ro, reL b ro, goL ro gr, lfL b (fw b ro s gr ro.length), ()) (i : Int) (gr.length : Int) = some (isS b ro gr i) := hsh
      have hst := dstop_is b ro s gr hs hn hro i hi
      have hst' : dstop (b, ro, reL b ro, goL ro gr, lfL b (fw b ro s gr ro.length), ()) (i : Int) = some (stopV b ro s gr i) := hst
      have ih' := ih (i + 1) (by omega) (by omega)
      have step : ∀ (c : Bool), (c = false ↔ OkG b ro s gr i) → ∀ (X : Option ((List (t_api_Right.den) × List (Int) × List (t_api_Point.den) × List (t_api_Point.den) × t_api_Basin.den) ⊕ (Bool))),
          (X = bif c then some (.inr false) else check_loop7 short containsX containsM dstop containsN of_ allEx k ro s gr ex ro (ro.length : Int) ((i + 1 : Nat) : Int) b (b, ro, (), (), (), ()) (reL b ro) (goL ro gr) (lfL b (fw b ro s gr ro.length))) →
          (X = some (.inl (ro, s, gr, ex, b)) ∧ ∀ j, i ≤ j → j < ro.length → OkG b ro s gr j) ∨ (X = some (.inr false) ∧ ¬ ∀ j, i ≤ j → j < ro.length → OkG b ro s gr j) := by
        intro c hc X hX
        cases c
        · rw [cond_false] at hX
          rw [hX]
          have ho := hc.1 rfl
          rcases ih' with ⟨g1, g2⟩ | ⟨g1, g2⟩
          · refine .inl ⟨g1, fun j h1 h2 => ?_⟩
            by_cases e : j = i
            · subst e; exact ho
            · exact g2 j (by omega) h2
          · exact .inr ⟨g1, fun hh => g2 fun j h1 h2 => hh j (by omega) h2⟩
        · rw [cond_true] at hX
          refine .inr ⟨hX, fun hh => ?_⟩
          have := hc.2 (hh i (Nat.le_refl _) hi)
          cases this
      refine step _ (okG_iff b ro s gr i (mostI b ro i) rfl) _ ?_
      rw [inb i ro.length hi, inb i (reL b ro).length (by rw [reL_length]; exact hi), inb i gr.length (by omega), inb i (goL ro gr).length (by rw [goL_length]; exact hi), decide_eq_true (show (i : Int) < (ro.length : Int) by omega), Int.toNat_natCast, Nat.zero_add, reL_getD _ _ _ hi, goL_getD _ _ _ hi]
      simp only [cond_true]
      rw [hsh', wi_id ((i : Int) + 1) (by omega) (by omega)]
      simp only [Option.bind_some]
      rw [hst']
      simp only [Option.bind_some]
      have eid : (roA ro i).1 = (List.getD ro i (Ty.zero t_api_Right)).1 := rfl
      by_cases hR : rR b ro i = []
      · have e0 : (((rR b ro i).length : Int) == 0) = true := by rw [hR]; rfl
        have em : mostI b ro i = 0 := (mostI_le b ro i).2.2.2 hR
        rw [e0, cond_true, em]
        show _ = bif ((List.getD gr i (Ty.zero t_api_Point)).1 != (List.getD ro i (Ty.zero t_api_Right)).1 || _) then _ else check_loop7 short containsX containsM dstop containsN of_ allEx k ro s gr ex ro (ro.length : Int) ((i : Int) + 1) b _ _ _ _
        generalize ((List.getD gr i (Ty.zero t_api_Point)).1 != (List.getD ro i (Ty.zero t_api_Right)).1) = c1
        generalize decide (gotF gr i < 0) = c2
        generalize decide (gotF gr i > 0) = c3
        generalize isS b ro gr i = c4
        generalize decide (stopV b ro s gr i < 0) = c5
        cases c1 <;> cases c2 <;> cases c3 <;> cases c4 <;> cases c5 <;> rfl
      · have e0 : (((rR b ro i).length : Int) == 0) = false := by
          rw [beq_eq_false_iff_ne]
          intro e
          exact hR (List.eq_nil_of_length_eq_zero (by omega))
        have em : mostI b ro i = if (if rateR ro i > 0 then rateR ro i else 0) < 1125899906842624 then (if rateR ro i > 0 then rateR ro i else 0) else 1125899906842624 := by unfold mostI; rw [if_neg hR]
        rw [e0, cond_false, em]
        show _ = bif ((List.getD gr i (Ty.zero t_api_Point)).1 != (List.getD ro i (Ty.zero t_api_Right)).1 || (_ || (decide (gotF gr i > if (if (List.getD ro i (Ty.zero t_api_Right)).2.2.2.2.1 > 0 then (List.getD ro i (Ty.zero t_api_Right)).2.2.2.2.1 else 0) < 1125899906842624 then (if (List.getD ro i (Ty.zero t_api_Right)).2.2.2.2.1 > 0 then (List.getD ro i (Ty.zero t_api_Right)).2.2.2.2.1 else 0) else 1125899906842624) || _))) then _ else check_loop7 short containsX containsM dstop containsN of_ allEx k ro s gr ex ro (ro.length : Int) ((i : Int) + 1) b _ _ _ _
        generalize ((List.getD gr i (Ty.zero t_api_Point)).1 != (List.getD ro i (Ty.zero t_api_Right)).1) = c1
        generalize decide (gotF gr i < 0) = c2
        generalize decide (gotF gr i > if (if (List.getD ro i (Ty.zero t_api_Right)).2.2.2.2.1 > 0 then (List.getD ro i (Ty.zero t_api_Right)).2.2.2.2.1 else 0) < 1125899906842624 then (if (List.getD ro i (Ty.zero t_api_Right)).2.2.2.2.1 > 0 then (List.getD ro i (Ty.zero t_api_Right)).2.2.2.2.1 else 0) else 1125899906842624) = c3
        generalize isS b ro gr i = c4
        generalize decide (stopV b ro s gr i < 0) = c5
        cases c1 <;> cases c2 <;> cases c3 <;> cases c4 <;> cases c5 <;> rfl
    · rw [decide_eq_false (show ¬ (i : Int) < (ro.length : Int) by omega), cond_false]
      exact .inl ⟨rfl, fun j h1 h2 => by omega⟩

theorem chk16_is (ex l : List t_api_Point.den) (hex : ex.length ≤ 9223372036854775807) (hl : l.length ≤ 9223372036854775807) : ∀ (k i : Nat), l.length < i + k → i ≤ l.length →
    (check_loop16 short containsX containsM dstop containsN of_ allEx k ex l (l.length : Int) (i : Int) = some (.inl ()) ∧ ∀ x, x ∈ l.drop i → x ∈ ex) ∨ (check_loop16 short containsX containsM dstop containsN of_ allEx k ex l (l.length : Int) (i : Int) = some (.inr false) ∧ ¬ ∀ x, x ∈ l.drop i → x ∈ ex) := by
  intro k
  induction k with
  | zero => intro i h hi; omega
  | succ k ih =>
    intro i h hi0
    unfold check_loop16 check_loop16_step
    rw [Int.toNat_natCast]
    by_cases hi : i < l.length
    · rw [drop_cons l i (Ty.zero t_api_Point) hi, inb _ _ hi, decide_eq_true (show (i : Int) < (l.length : Int) by omega), containsX_is _ _ hex]
      generalize List.getD l i (Ty.zero t_api_Point) = y at *
      simp only [cond_true, Option.bind_some]
      by_cases hy : y ∈ ex
      · rw [decide_eq_true hy, Bool.not_true, cond_false, wi_id ((i : Int) + 1) (by omega) (by omega)]
        rcases ih (i + 1) (by omega) (by omega) with ⟨g1, g2⟩ | ⟨g1, g2⟩
        · refine .inl ⟨g1, fun x hx => ?_⟩
          rcases List.mem_cons.1 hx with rfl | hx
          · exact hy
          · exact g2 x hx
        · exact .inr ⟨g1, fun hh => g2 fun x hx => hh x (by simp [hx])⟩
      · rw [decide_eq_false hy, Bool.not_false, cond_true]
        exact .inr ⟨rfl, fun hh => hy (hh y (by simp))⟩
    · rw [decide_eq_false (show ¬ (i : Int) < (l.length : Int) by omega), cond_false, List.drop_eq_nil_of_le (by omega)]
      exact .inl ⟨rfl, fun x hx => by cases hx⟩

theorem exL_len (b : t_api_Basin.den) (ro : List t_api_Right.den) (s : List Int) (gr : List t_api_Point.den) (hro : ro.length ≤ 64) : (exL b ro s gr).length ≤ 4096 := by
  have key : ∀ l : List Nat, (l.flatMap (exF b ro s gr)).length ≤ l.length * 64 := by
    intro l
    induction l with
    | nil => simp
    | cons x l ih =>
      rw [List.flatMap_cons, List.length_append, List.length_cons]
      have := exF_len b ro s gr x
      omega
  have := key (List.range ro.length)
  rw [List.length_range] at this
  unfold exL
  omega

theorem check_is (b : t_api_Basin.den) (ro : List t_api_Right.den) (s : List Int) (gr ex : List t_api_Point.den) (hs : ∀ x, x ∈ s → InR x) (hn : nP b ≤ 16) (hro : ro.length ≤ 64) (hex : ex.length ≤ 9223372036854775807) : ∃ r, check b ro s gr ex = some r ∧ (r = true ↔ ChkP b ro s gr ex) := by
  unfold check check_body
  by_cases hl : gr.length = ro.length
  · have e : ((gr.length : Int) != (ro.length : Int)) = false := by rw [hl]; exact bne_self_eq_false _
    rw [e, cond_false, of_is b ro s gr hs hn hro]
    simp only [Option.bind_some]
    obtain ⟨r, c1, c2⟩ := containsN_is (lfL b (fw b ro s gr ro.length)) (by rw [lfL_length]; omega)
    rw [c1]
    simp only [Option.bind_some]
    have hleft : (∀ x, x ∈ lfL b (fw b ro s gr ro.length) → 0 ≤ x) ↔ ∀ q : Nat, q < nP b → 0 ≤ fw b ro s gr ro.length (q : Int) := by
      unfold lfL
      constructor
      · intro h q hq
        exact h _ (List.mem_map.2 ⟨q, List.mem_range.2 hq, rfl⟩)
      · intro h x hx
        obtain ⟨q, hq, rfl⟩ := List.mem_map.1 hx
        exact h q (List.mem_range.1 hq)
    cases r
    · have hL : ∀ q : Nat, q < nP b → 0 ≤ fw b ro s gr ro.length (q : Int) := hleft.1 (by
        apply Classical.byContradiction
        intro hh
        have := c2.2 hh
        cases this)
      rw [cond_false]
      rcases chk7_is b ro s gr ex hs hn hro hl FUEL 0 (fuel_gt _ (by omega)) (by omega) with ⟨g1, g2⟩ | ⟨g1, g2⟩
      · have g1' : check_loop7 short containsX containsM dstop containsN of_ allEx FUEL ro s gr ex ro (ro.length : Int) 0 b (b, ro, (), (), (), ()) (reL b ro) (goL ro gr) (lfL b (fw b ro s gr ro.length)) = _ := g1
        rw [g1']
        simp only [Option.bind_some, Sum.elim]
        rw [allEx_is b ro s gr hs hn hro]
        simp only [Option.bind_some]
        rcases chk16_is ex (exL b ro s gr) hex (by have := exL_len b ro s gr hro; omega) FUEL 0 (fuel_gt _ (by have := exL_len b ro s gr hro; omega)) (by omega) with ⟨m1, m2⟩ | ⟨m1, m2⟩
        · have m1' : check_loop16 short containsX containsM dstop containsN of_ allEx FUEL ex (exL b ro s gr) ((exL b ro s gr).length : Int) 0 = _ := m1
          rw [m1']
          rw [List.drop_zero] at m2
          exact ⟨true, rfl, fun _ => ⟨hl, hL, fun i hi => g2 i (by omega) hi, m2⟩, fun _ => rfl⟩
        · have m1' : check_loop16 short containsX containsM dstop containsN of_ allEx FUEL ex (exL b ro s gr) ((exL b ro s gr).length : Int) 0 = _ := m1
          rw [m1']
          rw [List.drop_zero] at m2
          exact ⟨false, rfl, fun h => (by cases h), fun h => absurd h.exc m2⟩
      · have g1' : check_loop7 short containsX containsM dstop containsN of_ allEx FUEL ro s gr ex ro (ro.length : Int) 0 b (b, ro, (), (), (), ()) (reL b ro) (goL ro gr) (lfL b (fw b ro s gr ro.length)) = _ := g1
        rw [g1']
        exact ⟨false, rfl, fun h => (by cases h), fun h => absurd (fun j _ hj => h.ok j hj) g2⟩
    · rw [cond_true]
      exact ⟨false, rfl, fun h => (by cases h), fun h => absurd (hleft.2 h.left) (c2.1 rfl)⟩
  · have e : ((gr.length : Int) != (ro.length : Int)) = true := by simp; omega
    rw [e, cond_true]
    exact ⟨false, rfl, fun h => (by cases h), fun h => absurd h.len hl⟩
end Go.Lift.S38
