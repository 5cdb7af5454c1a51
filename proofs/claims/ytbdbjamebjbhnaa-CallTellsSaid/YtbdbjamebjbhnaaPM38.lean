import Derived.Test.YtbdbjamebjbhnaaPL38
set_option linter.all false
/- The reference's Check, and the statement CallTells. -/
set_option linter.unusedSimpArgs false
set_option linter.unusedVariables false
namespace Go.Lift.S38
open Go Go.Lift Go.Lift.Ar Go.Lift.Gr

theorem chkR4_is (b : t_api_Basin.den) (ro : List t_api_Right.den) (s : List Int) (gr ex : List t_api_Point.den) (hs : ∀ x, x ∈ s → InR x) (hn : nP b ≤ 16) (hro : ro.length ≤ 64) : ∀ (k i : Nat), nP b < i + k → i ≤ nP b →
    (check_r_loop4 is_r left_r stop_r hasX_r k ro s gr ex (i : Int) b = some (.inl (ro, s, gr, ex, b)) ∧ ∀ q : Nat, i ≤ q → q < nP b → 0 ≤ fw b ro s gr ro.length (q : Int)) ∨
    (check_r_loop4 is_r left_r stop_r hasX_r k ro s gr ex (i : Int) b = some (.inr false) ∧ ¬ ∀ q : Nat, i ≤ q → q < nP b → 0 ≤ fw b ro s gr ro.length (q : Int)) := by
  intro k
  induction k with
  | zero => intro i h hi; omega
  | succ k ih =>
    intro i h hi0
    unfold check_r_loop4 check_r_loop4_step
    have eL : (b.2.2.2.1.length : Int) = (nP b : Int) := rfl
    rw [eL]
    by_cases hi : i < nP b
    · rw [decide_eq_true (show (i : Int) < (nP b : Int) by omega), left_r_is b ro s gr _ hs hn hro]
      simp only [cond_true, Option.bind_some]
      by_cases hq : fw b ro s gr ro.length (i : Int) < 0
      · rw [decide_eq_true hq, cond_true]
        exact .inr ⟨rfl, fun hh => by have := hh i (Nat.le_refl _) hi; omega⟩
      · rw [decide_eq_false hq, cond_false, wi_id ((i : Int) + 1) (by omega) (by omega)]
        rcases ih (i + 1) (by omega) (by omega) with ⟨g1, g2⟩ | ⟨g1, g2⟩
        · refine .inl ⟨g1, fun q h1 h2 => ?_⟩
          by_cases e : q = i
          · subst e; omega
          · exact g2 q (by omega) h2
        · exact .inr ⟨g1, fun hh => g2 fun q h1 h2 => hh q (by omega) h2⟩
    · rw [decide_eq_false (show ¬ (i : Int) < (nP b : Int) by omega), cond_false]
      exact .inl ⟨rfl, fun q h1 h2 => by omega⟩

theorem chkR20_is (b : t_api_Basin.den) (ro : List t_api_Right.den) (s : List Int) (gr ex : List t_api_Point.den) (hro : ro.length ≤ 64) (hl : gr.length = ro.length) (hex : ex.length ≤ 9223372036854775807) (i : Nat) (hi : i < ro.length) : ∀ (k j : Nat), ro.length < j + k → j ≤ ro.length →
    (check_r_loop20 is_r left_r stop_r hasX_r k ro s gr ex (i : Int) (j : Int) b = some (.inl (ro, s, gr, ex, (i : Int), b)) ∧ ∀ x, j ≤ x → x < ro.length → 0 < gotF gr x → xc ro i x ∈ ex) ∨
    (check_r_loop20 is_r left_r stop_r hasX_r k ro s gr ex (i : Int) (j : Int) b = some (.inr false) ∧ ¬ ∀ x, j ≤ x → x < ro.length → 0 < gotF gr x → xc ro i x ∈ ex) := by
  intro k
  induction k with
  | zero => intro j h hj; omega
  | succ k ih =>
    intro j h hj0
    unfold check_r_loop20 check_r_loop20_step
    by_cases hj : j < ro.length
    · have hx := hasX_is ex (xc ro i j) hex
      have hx' : hasX_r ex ((List.getD ro i (Ty.zero t_api_Right)).1, (List.getD ro j (Ty.zero t_api_Right)).1, PUnit.unit) = _ := hx
      have eG : (List.getD gr j (Ty.zero t_api_Point)).2.1 = gotF gr j := by unfold gotF; rw [if_pos (by omega)]
      rw [inb i ro.length hi, inb j ro.length hj, inb j gr.length (by omega), decide_eq_true (show (j : Int) < (ro.length : Int) by omega), Int.toNat_natCast, Int.toNat_natCast, hx', eG]
      simp only [cond_true, Option.bind_some, sc_and]
      by_cases hb : 0 < gotF gr j ∧ xc ro i j ∉ ex
      · rw [decide_eq_true (show gotF gr j > 0 from hb.1), decide_eq_false hb.2]
        exact .inr ⟨rfl, fun hh => hb.2 (hh j (Nat.le_refl _) hj hb.1)⟩
      · have e : (decide (gotF gr j > 0) && !decide (xc ro i j ∈ ex)) = false := by
          rw [← Bool.not_eq_true, Bool.and_eq_true, decide_eq_true_eq, Bool.not_eq_true', decide_eq_false_iff_not]
          exact hb
        rw [e, cond_false, wi_id ((j : Int) + 1) (by omega) (by omega)]
        rcases ih (j + 1) (by omega) (by omega) with ⟨g1, g2⟩ | ⟨g1, g2⟩
        · refine .inl ⟨g1, fun x h1 h2 h3 => ?_⟩
          by_cases e : x = j
          · subst e
            exact Classical.byContradiction fun hh => hb ⟨h3, hh⟩
          · exact g2 x (by omega) h2 h3
        · exact .inr ⟨g1, fun hh => g2 fun x h1 h2 h3 => hh x (by omega) h2 h3⟩
    · rw [decide_eq_false (show ¬ (j : Int) < (ro.length : Int) by omega), cond_false]
      exact .inl ⟨rfl, fun x h1 h2 => by omega⟩

theorem okR_iff (b : t_api_Basin.den) (ro : List t_api_Right.den) (gr : List t_api_Point.den) (i : Nat) :
    ((grA gr i).1 != (roA ro i).1 || (decide (gotF gr i < 0) || (decide (gotF gr i > 1125899906842624) || (decide (gotF gr i > if rateR ro i > 0 then rateR ro i else 0) || (!(!(rR b ro i).isEmpty) && (gotF gr i != 0)))))) = false ↔
      (grA gr i).1 = idR (roA ro i) ∧ 0 ≤ gotF gr i ∧ gotF gr i ≤ mostI b ro i := by
  rw [Bool.or_eq_false_iff, Bool.or_eq_false_iff, Bool.or_eq_false_iff, Bool.or_eq_false_iff, Bool.and_eq_false_iff, bne_eq_false_iff_eq, decide_eq_false_iff_not, decide_eq_false_iff_not, decide_eq_false_iff_not, Bool.not_not, bne_eq_false_iff_eq]
  refine and_congr Iff.rfl ?_
  unfold mostI
  by_cases hR : rR b ro i = []
  · rw [if_pos hR, hR]
    constructor
    · rintro ⟨h1, h2, h3, h4 | h4⟩
      · cases h4
      · omega
    · intro h
      refine ⟨by omega, by omega, ?_, .inr (by omega)⟩
      split <;> omega
  · rw [if_neg hR]
    have hE : (rR b ro i).isEmpty = false := by
      cases h : rR b ro i
      · exact absurd h hR
      · rfl
    rw [hE]
    by_cases hr : rateR ro i > 0
    · rw [if_pos hr]
      constructor
      · rintro ⟨h1, h2, h3, h4⟩; refine ⟨by omega, ?_⟩; split <;> omega
      · rintro ⟨h1, h2⟩; refine ⟨by omega, ?_, ?_, .inl rfl⟩ <;> split at h2 <;> omega
    · rw [if_neg hr]
      constructor
      · rintro ⟨h1, h2, h3, h4⟩; refine ⟨by omega, ?_⟩; split <;> omega
      · rintro ⟨h1, h2⟩; refine ⟨by omega, ?_, ?_, .inl rfl⟩ <;> split at h2 <;> omega

/-- What the reference asks of right i. -/
def OkR (b : t_api_Basin.den) (ro : List t_api_Right.den) (s : List Int) (gr ex : List t_api_Point.den) (i : Nat) : Prop :=
  OkG b ro s gr i ∧ (isS b ro gr i = true → ∀ j, i < j → j < ro.length → 0 < gotF gr j → xc ro i j ∈ ex)

theorem chkR9_is (b : t_api_Basin.den) (ro : List t_api_Right.den) (s : List Int) (gr ex : List t_api_Point.den) (hs : ∀ x, x ∈ s → InR x) (hn : nP b ≤ 16) (hro : ro.length ≤ 64) (hl : gr.length = ro.length) (hex : ex.length ≤ 9223372036854775807) : ∀ (k i : Nat), ro.length < i + k → i ≤ ro.length →
    (check_r_loop9 is_r left_r stop_r hasX_r k ro s gr ex (i : Int) b = some (.inl ()) ∧ ∀ j, i ≤ j → j < ro.length → OkR b ro s gr ex j) ∨
    (check_r_loop9 is_r left_r stop_r hasX_r k ro s gr ex (i : Int) b = some (.inr false) ∧ ¬ ∀ j, i ≤ j → j < ro.length → OkR b ro s gr ex j) := by
  intro k
  induction k with
  | zero => intro i h hi; omega
  | succ k ih =>
    intro i h hi0
    unfold check_r_loop9 check_r_loop9_step
    by_cases hi : i < ro.length
    · have ih' := ih (i + 1) (by omega) (by omega)
      have eG : (List.getD gr i (Ty.zero t_api_Point)).2.1 = gotF gr i := by unfold gotF; rw [if_pos (by omega)]
      have eL : (b.2.2.2.1.length : Int) = (nP b : Int) := rfl
      have hat := rR_empty b ro hn i
      have eP : (List.getD ro i (Ty.zero t_api_Right)).2.2.2.1 = plR (ro.getD i (Ty.zero t_api_Right)) := rfl
      have eR : (List.getD ro i (Ty.zero t_api_Right)).2.2.2.2.1 = rateR ro i := rfl
      have hok := okR_iff b ro gr i
      rw [inb i ro.length hi, inb i gr.length (by omega), decide_eq_true (show (i : Int) < (ro.length : Int) by omega), Int.toNat_natCast, eG, eL, eP, eR, is_r_is b ro gr hn i hi, (stopV_is b ro s gr i hs hn hro hi).1, wi_id ((i : Int) + 1) (by omega) (by omega)]
      rw [hat] at hok
      generalize decide (plR (ro.getD i (Ty.zero t_api_Right)) ≥ 0) = a1 at *
      generalize decide (plR (ro.getD i (Ty.zero t_api_Right)) < (nP b : Int)) = a2 at *
      generalize decide (gotF gr i > if rateR ro i > 0 then rateR ro i else 0) = c4 at *
      generalize decide (gotF gr i > 1125899906842624) = c3 at *
      generalize decide (gotF gr i < 0) = c2 at *
      generalize (gotF gr i != 0) = c5 at *
      have hok' : ((List.getD gr i (Ty.zero t_api_Point)).1 != (List.getD ro i (Ty.zero t_api_Right)).1 || (c2 || (c3 || (c4 || (!(a1 && a2) && c5))))) = false ↔ (grA gr i).1 = idR (roA ro i) ∧ 0 ≤ gotF gr i ∧ gotF gr i ≤ mostI b ro i := hok
      generalize ((List.getD gr i (Ty.zero t_api_Point)).1 != (List.getD ro i (Ty.zero t_api_Right)).1) = c1 at *
      -- the condition
      have step : ∀ (X : Option (Unit ⊕ Bool)), (X = bif (c1 || (c2 || (c3 || (c4 || (!(a1 && a2) && c5))))) then some (.inr false) else bif !isS b ro gr i then check_r_loop9 is_r left_r stop_r hasX_r k ro s gr ex ((i + 1 : Nat) : Int) b else
          bif decide (stopV b ro s gr i < 0) then some (.inr false) else Option.bind (check_r_loop20 is_r left_r stop_r hasX_r FUEL ro s gr ex (i : Int) ((i : Int) + 1) b) fun r46 => Sum.elim (fun r47 => check_r_loop9 is_r left_r stop_r hasX_r k r47.fst r47.snd.fst r47.snd.snd.fst r47.snd.snd.snd.fst (wi (r47.snd.snd.snd.snd.fst + 1)) r47.snd.snd.snd.snd.snd) (fun r48 => some (Sum.inr r48)) r46) →
          (X = some (.inl ()) ∧ ∀ j, i ≤ j → j < ro.length → OkR b ro s gr ex j) ∨ (X = some (.inr false) ∧ ¬ ∀ j, i ≤ j → j < ro.length → OkR b ro s gr ex j) := by
        intro X hX
        generalize hc : (c1 || (c2 || (c3 || (c4 || (!(a1 && a2) && c5))))) = c at *
        cases c
        · rw [cond_false] at hX
          have ho := hok'.1 rfl
          have next : OkR b ro s gr ex i → X = check_r_loop9 is_r left_r stop_r hasX_r k ro s gr ex ((i + 1 : Nat) : Int) b → (X = some (.inl ()) ∧ ∀ j, i ≤ j → j < ro.length → OkR b ro s gr ex j) ∨ (X = some (.inr false) ∧ ¬ ∀ j, i ≤ j → j < ro.length → OkR b ro s gr ex j) := fun h1 h2 => by
            rw [h2]
            rcases ih' with ⟨g1, g2⟩ | ⟨g1, g2⟩
            · refine .inl ⟨g1, fun j h3 h4 => ?_⟩
              by_cases e : j = i
              · subst e; exact h1
              · exact g2 j (by omega) h4
            · exact .inr ⟨g1, fun hh => g2 fun j h3 h4 => hh j (by omega) h4⟩
          cases hsS : isS b ro gr i
          · rw [hsS] at hX
            exact next ⟨⟨ho.1, ho.2.1, ho.2.2, fun h => by rw [hsS] at h; cases h⟩, fun h => by rw [hsS] at h; cases h⟩ hX
          · rw [hsS] at hX
            by_cases hst : stopV b ro s gr i < 0
            · rw [decide_eq_true hst] at hX
              exact .inr ⟨hX, fun hh => by have := (hh i (Nat.le_refl _) hi).1.2.2.2 hsS; omega⟩
            · rw [decide_eq_false hst] at hX
              rcases chkR20_is b ro s gr ex hro hl hex i hi FUEL (i + 1) (by have := fuel_gt ro.length (by omega); omega) (by omega) with ⟨g1, g2⟩ | ⟨g1, g2⟩
              · have g1' : check_r_loop20 is_r left_r stop_r hasX_r FUEL ro s gr ex (i : Int) ((i : Int) + 1) b = _ := g1
                rw [g1'] at hX
                simp only [Bool.not_true, cond_false, Option.bind_some, Sum.elim] at hX
                rw [wi_id ((i : Int) + 1) (by omega) (by omega)] at hX
                exact next ⟨⟨ho.1, ho.2.1, ho.2.2, fun _ => by omega⟩, fun _ j h1 h2 h3 => g2 j (by omega) h2 h3⟩ hX
              · have g1' : check_r_loop20 is_r left_r stop_r hasX_r FUEL ro s gr ex (i : Int) ((i : Int) + 1) b = _ := g1
                rw [g1'] at hX
                exact .inr ⟨hX, fun hh => g2 fun j h1 h2 h3 => (hh i (Nat.le_refl _) hi).2 hsS j (by omega) h2 h3⟩
        · rw [cond_true] at hX
          refine .inr ⟨hX, fun hh => ?_⟩
          have h1 := (hh i (Nat.le_refl _) hi).1
          have := hok'.2 ⟨h1.1, h1.2.1, h1.2.2.1⟩
          cases this
      refine step _ ?_
      cases a1 <;> cases a2 <;> cases c1 <;> cases c2 <;> cases c3 <;> cases c4 <;> cases c5 <;> rfl
    · rw [decide_eq_false (show ¬ (i : Int) < (ro.length : Int) by omega), cond_false]
      exact .inl ⟨rfl, fun j h1 h2 => by omega⟩

theorem mem_exL {b : t_api_Basin.den} {ro : List t_api_Right.den} {s : List Int} {gr : List t_api_Point.den} {x : t_api_Point.den} : x ∈ exL b ro s gr ↔ ∃ i j, i < ro.length ∧ isS b ro gr i = true ∧ 0 ≤ stopV b ro s gr i ∧ j ∈ laterN gr ro.length i ∧ x = xc ro i j := by
  unfold exL
  rw [List.mem_flatMap]
  constructor
  · rintro ⟨i, hi, hx⟩
    unfold exF at hx
    cases hc : (isS b ro gr i && decide (0 ≤ stopV b ro s gr i))
    · rw [hc] at hx; simp at hx
    · rw [hc, cond_true] at hx
      rw [Bool.and_eq_true, decide_eq_true_eq] at hc
      obtain ⟨j, hj, rfl⟩ := List.mem_map.1 hx
      exact ⟨i, j, List.mem_range.1 hi, hc.1, hc.2, hj, rfl⟩
  · rintro ⟨i, j, hi, h1, h2, h3, rfl⟩
    refine ⟨i, List.mem_range.2 hi, ?_⟩
    unfold exF
    rw [h1, decide_eq_true h2]
    exact List.mem_map.2 ⟨j, h3, rfl⟩

theorem okR_all (b : t_api_Basin.den) (ro : List t_api_Right.den) (s : List Int) (gr ex : List t_api_Point.den) : (∀ i, i < ro.length → OkR b ro s gr ex i) ↔ (∀ i, i < ro.length → OkG b ro s gr i) ∧ ∀ x, x ∈ exL b ro s gr → x ∈ ex := by
  constructor
  · intro h
    refine ⟨fun i hi => (h i hi).1, fun x hx => ?_⟩
    obtain ⟨i, j, h1, h2, h3, h4, rfl⟩ := mem_exL.1 hx
    obtain ⟨a, b', c⟩ := mem_later.1 h4
    exact (h i h1).2 h2 j a b' c
  · rintro ⟨h1, h2⟩ i hi
    exact ⟨h1 i hi, fun hS j a b' c => h2 _ (mem_exL.2 ⟨i, j, hi, hS, (h1 i hi).2.2.2 hS, mem_later.2 ⟨a, b', c⟩, rfl⟩)⟩

theorem check_r_is (b : t_api_Basin.den) (ro : List t_api_Right.den) (s : List Int) (gr ex : List t_api_Point.den) (hs : ∀ x, x ∈ s → InR x) (hn : nP b ≤ 16) (hro : ro.length ≤ 64) (hex : ex.length ≤ 9223372036854775807) : ∃ r, check_r b ro s gr ex = some r ∧ (r = true ↔ ChkP b ro s gr ex) := by
  unfold check_r check_r_body
  by_cases hl : gr.length = ro.length
  · have e : ((gr.length : Int) != (ro.length : Int)) = false := by rw [hl]; exact bne_self_eq_false _
    rw [e, cond_false]
    rcases chkR4_is b ro s gr ex hs hn hro FUEL 0 (fuel_gt _ (by omega)) (by omega) with ⟨g1, g2⟩ | ⟨g1, g2⟩
    · have g1' : check_r_loop4 is_r left_r stop_r hasX_r FUEL ro s gr ex 0 b = _ := g1
      rw [g1']
      simp only [Option.bind_some, Sum.elim]
      rcases chkR9_is b ro s gr ex hs hn hro hl hex FUEL 0 (fuel_gt _ (by omega)) (by omega) with ⟨m1, m2⟩ | ⟨m1, m2⟩
      · have m1' : check_r_loop9 is_r left_r stop_r hasX_r FUEL ro s gr ex 0 b = _ := m1
        rw [m1']
        have h := (okR_all b ro s gr ex).1 (fun i hi => m2 i (by omega) hi)
        exact ⟨true, rfl, fun _ => ⟨hl, fun q hq => g2 q (by omega) hq, h.1, h.2⟩, fun _ => rfl⟩
      · have m1' : check_r_loop9 is_r left_r stop_r hasX_r FUEL ro s gr ex 0 b = _ := m1
        rw [m1']
        exact ⟨false, rfl, fun h => (by cases h), fun h => absurd (fun j _ hj => (okR_all b ro s gr ex).2 ⟨h.ok, h.exc⟩ j hj) m2⟩
    · have g1' : check_r_loop4 is_r left_r stop_r hasX_r FUEL ro s gr ex 0 b = _ := g1
      rw [g1']
      exact ⟨false, rfl, fun h => (by cases h), fun h => absurd (fun q _ hq => h.left q hq) g2⟩
  · have e : ((gr.length : Int) != (ro.length : Int)) = true := by simp; omega
    rw [e, cond_true]
    exact ⟨false, rfl, fun h => (by cases h), fun h => absurd h.len hl⟩

theorem check_same (b : t_api_Basin.den) (ro : List t_api_Right.den) (s : List Int) (gr ex : List t_api_Point.den) (hs : ∀ x, x ∈ s → InR x) (hn : nP b ≤ 16) (hro : ro.length ≤ 64) (hex : ex.length ≤ 9223372036854775807) : ∃ r, check b ro s gr ex = some r ∧ check_r b ro s gr ex = some r := by
  obtain ⟨r, h1, h2⟩ := check_is b ro s gr ex hs hn hro hex
  obtain ⟨r', h3, h4⟩ := check_r_is b ro s gr ex hs hn hro hex
  refine ⟨r, h1, ?_⟩
  rw [h3]
  cases r <;> cases r'
  · rfl
  · have := h2.2 (h4.1 rfl); cases this
  · have := h4.2 (h2.1 rfl); cases this
  · rfl

theorem tells_true (b : t_api_Basin.den) (ro : List t_api_Right.den) (s : List Int) (gr ex : List t_api_Point.den) (i : Int) (hs : ∀ x, x ∈ s → InR x) (hex : ex.length ≤ 9223372036854775807) : tells b ro s gr ex i = some true := by
  unfold tells tells_body
  obtain ⟨f, f1, f2⟩ := few_is b ro gr
  rw [small_true, f1]
  simp only [Option.bind_some]
  cases f
  · rfl
  · obtain ⟨hn, hro, _⟩ := f2 rfl
    obtain ⟨hst, st, hstr⟩ := stopAt_is b ro s gr hs hn (by omega) i
    obtain ⟨c, c1, c2⟩ := check_same b ro s gr ex hs hn (by omega) hex
    have hsl : (((List.range ro.length).filter (isS b ro gr)).map fun j => idR (ro.getD j (Ty.zero t_api_Right))).length ≤ 64 := by
      rw [List.length_map]
      have := List.length_filter_le (isS b ro gr) (List.range ro.length)
      rw [List.length_range] at this
      omega
    rw [shorts_is b ro gr hn (by omega), short_r_is b ro gr hn (by omega), allEx_is b ro s gr hs hn (by omega), excuses_r_is b ro s gr hs hn (by omega), hst, hstr, c1, c2]
    simp only [Option.bind_some, Bool.not_true, cond_false]
    rw [sameInts_refl _ (by omega), sameX_refl _ (by have := exL_len b ro s gr (by omega); omega)]
    simp only [Option.bind_some, cond_true, beq_self_eq_true]
    by_cases h : 0 ≤ i ∧ i < (ro.length : Int)
    · obtain ⟨j, rfl⟩ := Int.eq_ofNat_of_zero_le h.1
      obtain ⟨w1, w2⟩ := futile_is b (j : Int) (List.getD ro (Int.toNat (j : Int)) (Ty.zero t_api_Right)) hn
      rw [w2, w1]
      generalize (decide (0 ≤ (j : Int)) && decide ((j : Int) < (nP b : Int)) && !decide ((j : Int) ∈ RS b (plR (List.getD ro (Int.toNat (j : Int)) (Ty.zero t_api_Right))))) = v
      rw [decide_eq_true (show (j : Int) ≥ 0 from h.1), decide_eq_true h.2]
      cases v <;> rfl
    · have hc : (decide (i ≥ 0) && decide (i < (ro.length : Int))) = false := by
        rw [← Bool.not_eq_true, Bool.and_eq_true, decide_eq_true_eq, decide_eq_true_eq]; exact h
      generalize decide (i ≥ 0) = d1 at *
      generalize decide (i < (ro.length : Int)) = d2 at *
      cases d1 <;> cases d2
      · rfl
      · rfl
      · rfl
      · cases hc
end Go.Lift.S38
