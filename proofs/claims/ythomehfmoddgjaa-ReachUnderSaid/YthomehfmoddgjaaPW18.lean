import Derived.Test.YthomehfmoddgjaaPV18
set_option linter.all false
/- The statement ReachUnder. -/
set_option linter.unusedSimpArgs false
set_option linter.unusedVariables false
namespace Go.Lift.S18
open Go Go.Lift Go.Lift.Ar

def offOf (b : t_api_Basin.den) (t : Int) : Int := (List.getD b.snd.snd.snd.fst (Int.toNat t) (Ty.zero t_api_Place)).snd.snd.fst
theorem inOffice_eq (b : t_api_Basin.den) (o : Int) (l : Ld) : inOffice b o l = (decide (l.2.1 ≥ 0) && decide (l.2.1 < (b.snd.snd.snd.fst.length : Int)) && (offOf b l.2.1 == o)) := rfl

/-- A load that the statement counts. -/
def Known (b : t_api_Basin.den) (l : Ld) : Prop := (0 : Int) ≤ l.2.1 ∧ l.2.1 < (b.snd.snd.snd.fst.length : Int) ∧ 0 ≤ offOf b l.2.1 ∧ offOf b l.2.1 ≤ 2

theorem tsum_known {b : t_api_Basin.den} : ∀ {q : List Ld}, (∀ l, l ∈ q → Known b l) → usum b 0 q + usum b 1 q + usum b 2 q = tsum q
  | [], _ => rfl
  | l :: q, h => by
    have ih := tsum_known (b := b) (q := q) (fun m hm => h m (by simp [hm]))
    obtain ⟨h1, h2, h3, h4⟩ := h l (by simp)
    have e : ∀ o, inOffice b o l = (offOf b l.2.1 == o) := fun o => by
      rw [inOffice_eq, decide_eq_true h1, decide_eq_true h2]; rfl
    simp only [usum, tsum, List.map_cons, isum, e, beq_iff_eq] at ih ⊢
    generalize offOf b l.2.1 = f at *
    have hf : f = 0 ∨ f = 1 ∨ f = 2 := by omega
    rcases hf with rfl | rfl | rfl
    · rw [if_pos rfl, if_neg (by omega), if_neg (by omega)]; omega
    · rw [if_pos rfl, if_neg (by omega), if_neg (by omega)]; omega
    · rw [if_pos rfl, if_neg (by omega), if_neg (by omega)]; omega

theorem lunder_loop_is (b : t_api_Basin.den) (q : List Ld) (hq : Qu q) (hf : ∀ l, l ∈ q → Fit l.2.2.1) (o t : Int) (part : List Int) (sm : Option Bool) : ∀ (k i : Nat) (s : Int), q.length < i + k → i ≤ q.length → 0 ≤ s → s + tsum (q.drop i) ≤ 1125899906842624 →
    lunder_loop6 push right_ total under few lright sm k q o t part true s i b = some (.inr true) ∨
    lunder_loop6 push right_ total under few lright sm k q o t part true s i b = some (.inl (q, o, t, part, true, s + tsum (q.drop i), b)) ∧ ∀ l, l ∈ q.drop i → Known b l := by
  have hq1 := hq.1
  intro k
  induction k with
  | zero => intro i s h hi; omega
  | succ k ih =>
    intro i s h hi0 hs hle
    unfold lunder_loop6 lunder_loop6_step
    rw [Int.toNat_natCast]
    by_cases hi : i < q.length
    · have hm := hq.2 _ (getD_mem q i (Ty.zero t_api_Load) hi)
      have hfit := hf _ (getD_mem q i (Ty.zero t_api_Load) hi)
      have hsub : ∀ l, l ∈ q.drop (i + 1) → l ∈ q := fun l hl => List.mem_of_mem_drop hl
      rw [drop_cons q i (Ty.zero t_api_Load) hi] at hle ⊢
      rw [inb _ _ hi]
      generalize List.getD q i (Ty.zero t_api_Load) = l at *
      rw [tsum_cons] at hle
      have h3 := isum_nonneg hfit.1
      have h4 := tsum_nonneg (q := q.drop (i + 1)) (fun m hm => hf m (hsub m hm))
      have hi' : (i : Int) < (q.length : Int) := by omega
      simp only [hi', decide_true, cond_true]
      by_cases c1 : (l.snd.fst : Int) < 0
      · simp only [c1, decide_true, cond_true, Option.bind_some]
        exact .inl trivial
      · by_cases c2 : (l.snd.fst : Int) ≥ (List.length b.snd.snd.snd.fst : Int)
        · simp only [c1, c2, decide_true, decide_false, cond_true, cond_false, Option.bind_some]
          exact .inl trivial
        · have ht : total l.snd.snd.fst = some (isum l.2.2.1) := by
            rw [total_eq _ hm.2 (by have := hm.1; omega), tot_nonneg _ hfit.1 (by have := hfit.2; omega)]
          have c3 : (0 : Int) ≤ l.snd.fst := Int.not_lt.1 c1
          have c4 : (l.snd.fst : Int) < (List.length b.snd.snd.snd.fst : Int) := Int.not_le.1 c2
          simp only [c1, c2, c3, c4, decide_true, decide_false, cond_true, cond_false, Option.bind_some, Bool.and_self, sc_or, ht, wi_id ((i : Int) + 1) (by omega) (by omega)]
          have hoff : (List.getD b.snd.snd.snd.fst (Int.toNat l.snd.fst) (Ty.zero t_api_Place)).snd.snd.fst = offOf b l.2.1 := rfl
          rw [hoff]
          by_cases c5 : offOf b l.2.1 < 0 ∨ offOf b l.2.1 > 2
          · have : (decide (offOf b l.2.1 < 0) || decide (offOf b l.2.1 > 2)) = true := by simpa using c5
            rw [this]
            exact .inl rfl
          · have : (decide (offOf b l.2.1 < 0) || decide (offOf b l.2.1 > 2)) = false := by simp; omega
            rw [this, cond_false, wi_id (s + isum l.2.2.1) (by omega) (by have := hfit.2; omega)]
            rcases ih (i + 1) (s + isum l.2.2.1) (by omega) (by omega) (by omega) (by omega) with g | ⟨g1, g2⟩
            · exact .inl g
            · refine .inr ⟨?_, fun m hm => ?_⟩
              · rw [tsum_cons, ← Int.add_assoc]; exact g1
              · rcases List.mem_cons.1 hm with rfl | hm
                · exact ⟨c3, c4, by omega, by omega⟩
                · exact g2 m hm
    · have hi' : ¬ (i : Int) < (q.length : Int) := by omega
      rw [(List.drop_eq_nil_of_le (by omega) : q.drop i = [])]
      simp only [hi', decide_false, cond_false]
      exact .inr ⟨by simp [tsum, isum], fun l hl => by cases hl⟩

theorem usum_append (b : t_api_Basin.den) (o : Int) (q r : List Ld) : usum b o (q ++ r) = usum b o q + usum b o r := by
  unfold usum; rw [List.map_append, isum_append]
theorem tsum_append (q r : List Ld) : tsum (q ++ r) = tsum q + tsum r := by
  unfold tsum; rw [List.map_append, isum_append]

theorem zero_of_notPos : ∀ (l : List Int), (∀ x, x ∈ l → 0 ≤ x) → anyPos l = false → isum l = 0
  | [], _, _ => rfl
  | x :: l, h, hp => by
    simp only [anyPos, List.any_cons, Bool.or_eq_false_iff, decide_eq_false_iff_not] at hp
    have := h x (by simp)
    simp only [isum, zero_of_notPos l (fun y hy => h y (by simp [hy])) hp.2]
    omega

theorem lunder_loop20_is (b : t_api_Basin.den) (q more : List Ld) (t : Int) (part : List Int) (ht0 : 0 ≤ t) (ht1 : t < (b.snd.snd.snd.fst.length : Int)) (htot : total part = some (isum part)) (hp0 : 0 ≤ isum part) (hp1 : isum part ≤ 1125899906842624)
    (hu : ∀ o, under q b o = some (usum b o q)) (hu0 : ∀ o, 0 ≤ usum b o q ∧ usum b o q ≤ 1125899906842624) (hv : ∀ o, under more b o = some (usum b o q + if offOf b t = o then isum part else 0)) (sm : Option Bool) :
    ∀ (k m : Nat), m < k → m ≤ 5 → lunder_loop20 push right_ total under few lright sm k q t part true more (4 - (m : Int)) b = some (.inl true) := by
  intro k
  induction k with
  | zero => intro m h; omega
  | succ k ih =>
    intro m hm hm5
    unfold lunder_loop20 lunder_loop20_step
    by_cases h0 : m = 0
    · subst h0; rfl
    · have hlt : (4 - (m : Int)) < 4 := by omega
      have hoff : (List.getD b.snd.snd.snd.fst (Int.toNat t) (Ty.zero t_api_Place)).snd.snd.fst = offOf b t := rfl
      have nx := ih (m - 1) (by omega) (by omega)
      have e : wi (4 - (m : Int) + 1) = 4 - ((m - 1 : Nat) : Int) := by rw [wi_id _ (by omega) (by omega)]; omega
      rw [hoff, e]
      have hb := hu0 (4 - (m : Int))
      simp only [hlt, ht0, ht1, decide_true, Bool.and_self, cond_true, hu, hv, htot, Option.bind_some]
      by_cases hc : offOf b t = 4 - (m : Int)
      · simp only [hc, beq_self_eq_true, cond_true, if_true]
        rw [wi_id _ (by omega) (by omega), bne_self_eq_false, cond_false]
        exact nx
      · have : (offOf b t == 4 - (m : Int)) = false := by simpa using hc
        simp only [this, hc, cond_false, if_false]
        rw [wi_id _ (by omega) (by omega), bne_self_eq_false, cond_false]
        exact nx

theorem lunder_true (b : t_api_Basin.den) (q : List Ld) (o t : Int) (part : List Int) (hq : q.length ≤ 9223372036854775807) (hin : ∀ l, l ∈ q → ∀ x, x ∈ l.2.2.1 → InR x) (hpl : part.length ≤ 9223372036854775807) (hpin : ∀ x, x ∈ part → InR x) :
    lunder b q o t part = some true := by
  unfold lunder lunder_body
  obtain ⟨f, hf, hff⟩ := few_eq q hq
  simp only [small_true, hf, Option.bind_some, sc_or]
  by_cases hc : (!f || decide (o < 0) || decide (o > 6) || decide ((b.snd.snd.snd.fst.length : Int) > 10)) = true
  · rw [hc]; rfl
  · rw [Bool.not_eq_true] at hc
    rw [hc, cond_false]
    simp only [Bool.or_eq_false_iff, decide_eq_false_iff_not, Bool.not_eq_false'] at hc
    obtain ⟨⟨⟨hc1, hc2⟩, hc3⟩, hc4⟩ := hc
    have hfew := hff.1 hc1
    have hQ : Qu q := ⟨by have := hfew.2; omega, fun l hl => ⟨by have := hfew.1 l hl; omega, hin l hl⟩⟩
    obtain ⟨r, hr, hrg⟩ := lright_eq q hQ o (by omega) (by omega)
    rw [hr]
    simp only [Option.bind_some]
    cases hr1 : r
    · rfl
    · obtain ⟨g1, g2⟩ := hrg hr1
      simp only [Bool.not_true, cond_false]
      have hfit : ∀ l, l ∈ q → Fit l.2.2.1 := fun l hl => (g1 l hl).2
      rcases lunder_loop_is b q hQ hfit o t part (some true) FUEL 0 0 (fuel_gt _ (by omega)) (by omega) (by omega) (by rw [List.drop_zero]; omega) with g | ⟨g, gk⟩
      · have g' : lunder_loop6 push right_ total under few lright (some true) FUEL q o t part true 0 0 b = _ := g
        rw [g']; rfl
      · rw [List.drop_zero] at g gk
        have g' : lunder_loop6 push right_ total under few lright (some true) FUEL q o t part true 0 0 b = _ := g
        rw [g']
        have hu : ∀ o, under q b o = some (usum b o q) := fun o => by
          rw [under_eq b o q hQ, und_fold q 0 hfit (by omega) (by omega), Int.zero_add]
        have hu0 : ∀ o, 0 ≤ usum b o q ∧ usum b o q ≤ 1125899906842624 := fun o => by
          have := usum_le (b := b) (o := o) hfit; omega
        have hk := tsum_known gk
        have u0 := hu0 0; have u1 := hu0 1; have u2 := hu0 2
        simp only [Option.bind_some, Sum.elim, hu, right__eq part o hpin hpl, sc_or]
        rw [wi_id (usum b 0 q + usum b 1 q) (by omega) (by omega), wi_id _ (by omega) (by omega), hk, Int.zero_add, bne_self_eq_false, cond_false]
        by_cases hc5 : (!decide (0 ≤ o ∧ o ≤ 16 ∧ (part.length : Int) = o ∧ Fit part) || decide (t < 0) || decide (t ≥ (b.snd.snd.snd.fst.length : Int))) = true
        · rw [hc5]; rfl
        · rw [Bool.not_eq_true] at hc5
          rw [hc5, cond_false]
          simp only [Bool.or_eq_false_iff, decide_eq_false_iff_not, Bool.not_eq_false', decide_eq_true_eq] at hc5
          obtain ⟨⟨⟨_, _, hp1, hp2⟩, ht0⟩, ht1⟩ := hc5
          rw [push_eq q 5 t part hpl (by have := hfew.2; omega)]
          simp only [Option.bind_some]
          have hp0 := isum_nonneg hp2.1
          have htot : total part = some (isum part) := by rw [total_eq _ hpin hpl, tot_nonneg _ hp2.1 (by have := hp2.2; omega)]
          have hv : ∀ o', under (pushed q 5 t part) b o' = some (usum b o' q + if offOf b t = o' then isum part else 0) := fun o' => by
            unfold pushed
            cases ha : anyPos part
            · rw [if_pos (.inr rfl), hu, zero_of_notPos part hp2.1 ha]; simp
            · rw [if_neg (fun h => h.elim ht0 (fun h => by cases h))]
              have hQ2 : Qu (q ++ [(5, t, part, ())]) := ⟨by rw [List.length_append]; have := hfew.2; simp; omega, fun l hl => by
                rcases List.mem_append.1 hl with hl | hl
                · exact hQ.2 l hl
                · rw [List.mem_singleton.1 hl]; exact ⟨by show part.length ≤ 16; omega, hpin⟩⟩
              have hfit2 : ∀ l, l ∈ q ++ [((5, t, part, ()) : Ld)] → Fit l.2.2.1 := fun l hl => by
                rcases List.mem_append.1 hl with hl | hl
                · exact hfit l hl
                · rw [List.mem_singleton.1 hl]; exact hp2
              have e1 : tsum [((5, t, part, ()) : Ld)] = isum part := by show isum part + 0 = _; omega
              have e2 : usum b o' [((5, t, part, ()) : Ld)] = if offOf b t = o' then isum part else 0 := by
                show (if inOffice b o' (5, t, part, ()) = true then isum part else 0) + 0 = _
                rw [inOffice_eq, decide_eq_true (show t ≥ 0 by omega), decide_eq_true (show t < (b.snd.snd.snd.fst.length : Int) by omega)]
                by_cases h : offOf b t = o'
                · simp [h]
                · have : (offOf b t == o') = false := by simpa using h
                  simp [this, h]
              rw [under_eq b o' _ hQ2, und_fold _ 0 hfit2 (by omega) (by rw [tsum_append, e1]; have := hp2.2; omega), Int.zero_add, usum_append, e2]
          have gg := lunder_loop20_is b q (pushed q 5 t part) t part (by omega) (by omega) htot hp0 hp2.2 hu hu0 hv (some true) FUEL 5 (by decide) (by omega)
          have gg' : lunder_loop20 push right_ total under few lright (some true) FUEL q t part true (pushed q 5 t part) (-1) b = _ := gg
          rw [gg']
          rfl
end Go.Lift.S18
