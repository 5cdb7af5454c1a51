import Derived.Test.YtbdbjamebjbhnaaPB38
set_option linter.all false
/- The reference's parts of seat 38. -/
set_option linter.unusedSimpArgs false
set_option linter.unusedVariables false
namespace Go.Lift.S38
open Go Go.Lift Go.Lift.Ar Go.Lift.Gr

theorem BS_stop (b : t_api_Basin.den) (s : List Int) (q : Int) {i : Nat} (hi : s.length ≤ i) : ∀ (j : Nat), i ≤ j → BS b s j q = BS b s i q
  | 0, h => by have : i = 0 := by omega
               subst this; rfl
  | j + 1, h => by
    by_cases e : i = j + 1
    · subst e; rfl
    · have ih := BS_stop b s q hi j (by omega)
      simp only [BS]
      rw [if_neg (fun h => by omega), ih]

theorem there_loop_is (s : List Int) (q : Int) (b : t_api_Basin.den) (hs : ∀ x, x ∈ s → InR x) (hn : nP b ≤ 16) : ∀ (k i : Nat), nP b < i + k → i ≤ nP b →
    there_r_loop3 add_r has reach_r k s q (BS b s i q) (i : Int) b = some (MS b s q) := by
  intro k
  induction k with
  | zero => intro i h hi; omega
  | succ k ih =>
    intro i h hi0
    unfold there_r_loop3 there_r_loop3_step
    have eL : (b.2.2.2.1.length : Int) = (nP b : Int) := rfl
    rw [eL]
    simp only [sc_and, Option.bind_some]
    by_cases hi : i < nP b ∧ i < s.length
    · have e1 : (decide ((i : Int) < (nP b : Int)) && decide ((i : Int) < (s.length : Int))) = true := by simp; omega
      obtain ⟨_, r2, r3, _⟩ := rch_is b hn (i : Int)
      rw [e1, cond_true, r2]
      simp only [Option.bind_some]
      rw [has_is _ _ (by have := r3.len; omega), inb _ _ hi.2, Int.toNat_natCast]
      simp only [Option.bind_some, cond_true]
      have hx := hs _ (getD_mem s i 0 hi.2)
      have hB := BS_in b s hs i q
      have ih' := ih (i + 1) (by omega) (by omega)
      simp only [BS] at ih'
      rw [wi_id ((i : Int) + 1) (by omega) (by omega)]
      by_cases hm : q ∈ RS b (i : Int)
      · rw [decide_eq_true hm]
        simp only [cond_true, Option.bind_some]
        by_cases hp : s.getD i 0 > 0
        · rw [decide_eq_true hp, cond_true, add_r_eq _ _ hB.2 hx]
          simp only [Option.bind_some]
          rw [if_pos ⟨hi.2, by omega, hm⟩] at ih'
          exact ih'
        · rw [decide_eq_false hp, cond_false]
          by_cases h0 : 0 ≤ s.getD i 0
          · rw [if_pos ⟨hi.2, h0, hm⟩, show BS b s i q + s.getD i 0 = BS b s i q by omega, sat_of hB.2] at ih'
            exact ih'
          · rw [if_neg (fun hh => h0 hh.2.1)] at ih'
            exact ih'
      · rw [decide_eq_false hm]
        simp only [cond_false, Option.bind_some]
        rw [if_neg (fun hh => hm hh.2.2)] at ih'
        exact ih'
    · have e1 : (decide ((i : Int) < (nP b : Int)) && decide ((i : Int) < (s.length : Int))) = false := by
        rw [← Bool.not_eq_true, Bool.and_eq_true, decide_eq_true_eq, decide_eq_true_eq]; omega
      rw [e1, cond_false, Option.some.injEq]
      by_cases h1 : i = nP b
      · rw [h1]
      · exact (BS_stop b s q (i := i) (by omega) (nP b) (by omega)).symm

theorem there_r_is (b : t_api_Basin.den) (s : List Int) (q : Int) (hs : ∀ x, x ∈ s → InR x) (hn : nP b ≤ 16) : there_r b s q = some (MS b s q) := by
  unfold there_r there_r_body
  rw [bind_eta]
  exact there_loop_is s q b hs hn FUEL 0 (fuel_gt _ (by omega)) (by omega)

/-- What a right got. -/
def gotF (gr : List t_api_Point.den) (i : Nat) : Int := if i < gr.length then (gr.getD i (Ty.zero t_api_Point)).2.1 else 0

theorem got_r_is (gr : List t_api_Point.den) (i : Nat) : got_r gr (i : Int) = some (gotF gr i) := by
  unfold got_r got_r_body gotF
  rw [Int.toNat_natCast]
  simp only [sc_or, Option.bind_some]
  have h0 : decide ((i : Int) < 0) = false := decide_eq_false (by omega)
  by_cases h : i < gr.length
  · have h1 : decide ((i : Int) ≥ (gr.length : Int)) = false := decide_eq_false (by omega)
    rw [h0, h1, inb _ _ h, if_pos h]; rfl
  · have h1 : decide ((i : Int) ≥ (gr.length : Int)) = true := by simp; omega
    rw [h0, h1, if_neg h]; rfl

/-- What is left at q, around the end of the numbers. -/
noncomputable def fw (b : t_api_Basin.den) (ro : List t_api_Right.den) (s : List Int) (gr : List t_api_Point.den) : Nat → Int → Int
  | 0, q => MS b s q
  | i + 1, q => if q ∈ rR b ro i then wi (fw b ro s gr i q - gotF gr i) else fw b ro s gr i q

theorem fw_in (b : t_api_Basin.den) (ro : List t_api_Right.den) (s : List Int) (gr : List t_api_Point.den) (hs : ∀ x, x ∈ s → InR x) : ∀ (i : Nat) (q : Int), InR (fw b ro s gr i q)
  | 0, q => (BS_in b s hs (nP b) q).2
  | i + 1, q => by
    simp only [fw]
    split
    · exact wi_in _
    · exact fw_in b ro s gr hs i q

theorem left_loop_is (ro : List t_api_Right.den) (s : List Int) (gr : List t_api_Point.den) (q : Int) (b : t_api_Basin.den) (hs : ∀ x, x ∈ s → InR x) (hn : nP b ≤ 16) (hro : ro.length ≤ 64) : ∀ (k i : Nat), ro.length < i + k → i ≤ ro.length →
    left_r_loop3 has reach_r got_r there_r k ro gr q (fw b ro s gr i q) (i : Int) b = some (fw b ro s gr ro.length q) := by
  intro k
  induction k with
  | zero => intro i h hi; omega
  | succ k ih =>
    intro i h hi0
    unfold left_r_loop3 left_r_loop3_step
    by_cases hi : i < ro.length
    · obtain ⟨_, r2, r3, _⟩ := rch_is b hn (plR (ro.getD i (Ty.zero t_api_Right)))
      rw [inb _ _ hi, decide_eq_true (show (i : Int) < (ro.length : Int) by omega), Int.toNat_natCast]
      simp only [cond_true]
      have r2' : reach_r b (List.getD ro i (Ty.zero t_api_Right)).2.2.2.1 = some (rR b ro i) := r2
      have r3' : Good (nP b) (rR b ro i) := r3
      have hlen := r3'.len
      rw [r2']
      simp only [Option.bind_some]
      rw [has_is _ _ (by omega), got_r_is, wi_id ((i : Int) + 1) (by omega) (by omega)]
      simp only [Option.bind_some]
      have ih' := ih (i + 1) (by omega) (by omega)
      simp only [fw] at ih'
      by_cases hm : q ∈ rR b ro i
      · rw [decide_eq_true hm, cond_true]
        rw [if_pos hm] at ih'
        exact ih'
      · rw [decide_eq_false hm, cond_false]
        rw [if_neg hm] at ih'
        exact ih'
    · have : i = ro.length := by omega
      subst this
      rw [decide_eq_false (show ¬ (ro.length : Int) < (ro.length : Int) by omega), cond_false]

theorem left_r_is (b : t_api_Basin.den) (ro : List t_api_Right.den) (s : List Int) (gr : List t_api_Point.den) (q : Int) (hs : ∀ x, x ∈ s → InR x) (hn : nP b ≤ 16) (hro : ro.length ≤ 64) : left_r b ro s gr q = some (fw b ro s gr ro.length q) := by
  unfold left_r left_r_body
  rw [there_r_is b s q hs hn]
  simp only [Option.bind_some, bind_eta]
  exact left_loop_is ro s gr q b hs hn hro FUEL 0 (fuel_gt _ (by omega)) (by omega)

/-! ### where a right is stopped -/

/-- Nothing is left at q, and no later right with water has it in its reach. -/
def Halt (b : t_api_Basin.den) (ro : List t_api_Right.den) (s : List Int) (gr : List t_api_Point.den) (i : Nat) (q : Int) : Prop :=
  fw b ro s gr ro.length q ≤ 0 ∧ ∀ k, i < k → k < ro.length → q ∈ rR b ro k → ¬ 0 < gotF gr k
def IsStop (b : t_api_Basin.den) (ro : List t_api_Right.den) (s : List Int) (gr : List t_api_Point.den) (i : Nat) (r : Int) : Prop :=
  (r = -1 ∧ ∀ q, q ∈ rR b ro i → ¬ Halt b ro s gr i q) ∨ ∃ j, j < (rR b ro i).length ∧ r = (rR b ro i).getD j 0 ∧ Halt b ro s gr i r ∧ ∀ j', j' < j → ¬ Halt b ro s gr i ((rR b ro i).getD j' 0)

theorem IsStop.uniq {b : t_api_Basin.den} {ro : List t_api_Right.den} {s : List Int} {gr : List t_api_Point.den} {i : Nat} {r r' : Int} (h : IsStop b ro s gr i r) (h' : IsStop b ro s gr i r') : r = r' := by
  rcases h with ⟨e, h⟩ | ⟨j, h1, e, h2, h3⟩ <;> rcases h' with ⟨e', h'⟩ | ⟨j', h1', e', h2', h3'⟩
  · omega
  · exact absurd (e' ▸ h2') (h _ (getD_mem _ _ _ h1'))
  · exact absurd (e ▸ h2) (h' _ (getD_mem _ _ _ h1))
  · rcases Nat.lt_trichotomy j j' with a | a | a
    · exact absurd (e ▸ h2) (h3' j a)
    · subst a; rw [e, e']
    · exact absurd (e' ▸ h2') (h3 j' a)

theorem stop9_is (ro : List t_api_Right.den) (s : List Int) (gr : List t_api_Point.den) (ii : Int) (l : List Int) (kk : Nat) (b : t_api_Basin.den) (hkk : kk < l.length) (hn : nP b ≤ 16) (hro : ro.length ≤ 64) : ∀ (k j : Nat) (st : Bool), ro.length < j + k → j ≤ ro.length →
    ∃ r, stop_r_loop9 has reach_r got_r left_r k ro s gr ii l (kk : Int) st (j : Int) b = some (ro, s, gr, ii, l, (kk : Int), r, b) ∧ (r = true ↔ st = true ∧ ∀ k, j ≤ k → k < ro.length → l.getD kk 0 ∈ rR b ro k → ¬ 0 < gotF gr k) := by
  intro k
  induction k with
  | zero => intro j st h hi; omega
  | succ k ih =>
    intro j st h hi0
    unfold stop_r_loop9 stop_r_loop9_step
    by_cases hj : j < ro.length
    · obtain ⟨_, r2, r3, _⟩ := rch_is b hn (plR (ro.getD j (Ty.zero t_api_Right)))
      rw [inb _ _ hj, inb _ _ hkk, decide_eq_true (show (j : Int) < (ro.length : Int) by omega), Int.toNat_natCast, Int.toNat_natCast]
      simp only [cond_true]
      have r2' : reach_r b (List.getD ro j (Ty.zero t_api_Right)).2.2.2.1 = some (rR b ro j) := r2
      have r3' : Good (nP b) (rR b ro j) := r3
      have hlen := r3'.len
      rw [r2']
      simp only [Option.bind_some]
      rw [has_is _ _ (by omega), got_r_is, wi_id ((j : Int) + 1) (by omega) (by omega)]
      simp only [Option.bind_some]
      by_cases hm : l.getD kk 0 ∈ rR b ro j ∧ 0 < gotF gr j
      · rw [decide_eq_true hm.1, cond_true]
        simp only [Option.bind_some]
        rw [decide_eq_true (show gotF gr j > 0 from hm.2), cond_true]
        obtain ⟨r, g1, g2⟩ := ih (j + 1) false (by omega) (by omega)
        refine ⟨r, g1, ?_⟩
        rw [g2]
        constructor
        · intro h; cases h.1
        · intro h; exact absurd hm.2 (h.2 j (Nat.le_refl _) hj hm.1)
      · have e : (Option.bind (bif decide (l.getD kk 0 ∈ rR b ro j) then some (decide (gotF gr j > 0)) else some false) fun r30 => bif r30 then stop_r_loop9 has reach_r got_r left_r k ro s gr ii l (kk : Int) false ((j : Int) + 1) b else stop_r_loop9 has reach_r got_r left_r k ro s gr ii l (kk : Int) st ((j : Int) + 1) b) = stop_r_loop9 has reach_r got_r left_r k ro s gr ii l (kk : Int) st ((j : Int) + 1) b := by
          by_cases h1 : l.getD kk 0 ∈ rR b ro j
          · rw [decide_eq_true h1, cond_true]
            simp only [Option.bind_some]
            rw [decide_eq_false (show ¬ gotF gr j > 0 from fun h2 => hm ⟨h1, h2⟩), cond_false]
          · rw [decide_eq_false h1]; rfl
        rw [e]
        obtain ⟨r, g1, g2⟩ := ih (j + 1) st (by omega) (by omega)
        refine ⟨r, g1, ?_⟩
        rw [g2]
        refine and_congr Iff.rfl ⟨fun h k h1 h2 h3 h4 => ?_, fun h k h1 h2 => h k (by omega) h2⟩
        by_cases e : k = j
        · subst e; exact hm ⟨h3, h4⟩
        · exact h k (by omega) h2 h3 h4
    · have : j = ro.length := by omega
      subst this
      rw [decide_eq_false (show ¬ (ro.length : Int) < (ro.length : Int) by omega), cond_false]
      exact ⟨st, rfl, fun h => ⟨h, fun k h1 h2 => by omega⟩, fun h => h.1⟩

theorem stop5_is (ro : List t_api_Right.den) (s : List Int) (gr : List t_api_Point.den) (i : Nat) (b : t_api_Basin.den) (hs : ∀ x, x ∈ s → InR x) (hn : nP b ≤ 16) (hro : ro.length ≤ 64) (hi : i < ro.length) : ∀ (k x : Nat), (rR b ro i).length < x + k → x ≤ (rR b ro i).length →
    (∀ j, j < x → ¬ Halt b ro s gr i ((rR b ro i).getD j 0)) →
    (stop_r_loop5 has reach_r got_r left_r k ro s gr (i : Int) (rR b ro i) (x : Int) b = some (.inl ()) ∧ IsStop b ro s gr i (-1)) ∨ ∃ r, stop_r_loop5 has reach_r got_r left_r k ro s gr (i : Int) (rR b ro i) (x : Int) b = some (.inr r) ∧ IsStop b ro s gr i r := by
  obtain ⟨_, _, r3, _⟩ := rch_is b hn (plR (ro.getD i (Ty.zero t_api_Right)))
  have r3' : Good (nP b) (rR b ro i) := r3
  have hlen := r3'.len
  intro k
  induction k with
  | zero => intro x h hx; omega
  | succ k ih =>
    intro x h hx0 hno
    unfold stop_r_loop5 stop_r_loop5_step
    by_cases hx : x < (rR b ro i).length
    · rw [inb _ _ hx, decide_eq_true (show (x : Int) < ((rR b ro i).length : Int) by omega), Int.toNat_natCast]
      simp only [cond_true]
      rw [left_r_is b ro s gr _ hs hn hro]
      simp only [Option.bind_some]
      rw [wi_id ((i : Int) + 1) (by omega) (by omega)]
      obtain ⟨r, g1, g2⟩ := stop9_is ro s gr (i : Int) (rR b ro i) x b hx hn hro FUEL (i + 1) (decide (fw b ro s gr ro.length ((rR b ro i).getD x 0) ≤ 0)) (by have := fuel_gt ro.length (by omega); omega) (by omega)
      have g1' : stop_r_loop9 has reach_r got_r left_r FUEL ro s gr (i : Int) (rR b ro i) (x : Int) (decide (fw b ro s gr ro.length ((rR b ro i).getD x 0) ≤ 0)) ((i : Int) + 1) b = _ := g1
      rw [g1']
      simp only [Option.bind_some]
      have g3 : r = true ↔ Halt b ro s gr i ((rR b ro i).getD x 0) := by
        rw [g2, decide_eq_true_eq]
        exact Iff.rfl
      cases r
      · have hno' : ¬ Halt b ro s gr i ((rR b ro i).getD x 0) := fun hh => by have := g3.2 hh; cases this
        simp only [cond_false]
        rw [wi_id ((x : Int) + 1) (by omega) (by omega)]
        exact ih (x + 1) (by omega) (by omega) (fun j hj => by
          by_cases e : j = x
          · subst e; exact hno'
          · exact hno j (by omega))
      · simp only [cond_true]
        rw [inb _ _ hx, Int.toNat_natCast]
        exact .inr ⟨_, rfl, .inr ⟨x, hx, rfl, g3.1 rfl, hno⟩⟩
    · rw [decide_eq_false (show ¬ (x : Int) < ((rR b ro i).length : Int) by omega), cond_false]
      refine .inl ⟨rfl, .inl ⟨rfl, fun q hq => ?_⟩⟩
      obtain ⟨j, hj, e⟩ := List.getElem_of_mem hq
      have := hno j (by omega)
      rw [List.getD_eq_getElem?_getD, List.getElem?_eq_getElem hj] at this
      rw [← e]
      exact this

theorem stop_r_is (b : t_api_Basin.den) (ro : List t_api_Right.den) (s : List Int) (gr : List t_api_Point.den) (i : Nat) (hs : ∀ x, x ∈ s → InR x) (hn : nP b ≤ 16) (hro : ro.length ≤ 64) (hi : i < ro.length) : ∃ r, stop_r b ro s gr (i : Int) = some r ∧ IsStop b ro s gr i r := by
  unfold stop_r stop_r_body
  obtain ⟨_, r2, r3, _⟩ := rch_is b hn (plR (ro.getD i (Ty.zero t_api_Right)))
  have r2' : reach_r b (List.getD ro i (Ty.zero t_api_Right)).2.2.2.1 = some (rR b ro i) := r2
  have r3' : Good (nP b) (rR b ro i) := r3
  have hlen := r3'.len
  rw [inb _ _ hi, Int.toNat_natCast, decide_eq_false (show ¬ (i : Int) < 0 by omega), decide_eq_false (show ¬ (i : Int) ≥ (ro.length : Int) by omega), r2']
  simp only [cond_false, cond_true, Option.bind_some]
  rcases stop5_is ro s gr i b hs hn hro hi FUEL 0 (fuel_gt _ (by omega)) (by omega) (fun j hj => by omega) with ⟨g1, g2⟩ | ⟨r, g1, g2⟩
  · have g1' : stop_r_loop5 has reach_r got_r left_r FUEL ro s gr (i : Int) (rR b ro i) 0 b = _ := g1
    rw [g1']
    exact ⟨-1, rfl, g2⟩
  · have g1' : stop_r_loop5 has reach_r got_r left_r FUEL ro s gr (i : Int) (rR b ro i) 0 b = _ := g1
    rw [g1']
    exact ⟨r, rfl, g2⟩

theorem stop_r_out (b : t_api_Basin.den) (ro : List t_api_Right.den) (s : List Int) (gr : List t_api_Point.den) (i : Int) (hi : ¬ (0 ≤ i ∧ i < (ro.length : Int))) : stop_r b ro s gr i = some (-1) := by
  unfold stop_r stop_r_body
  simp only [sc_or, Option.bind_some]
  have : (decide (i < 0) || decide (i ≥ (ro.length : Int))) = true := by
    simp only [Bool.or_eq_true, decide_eq_true_eq]; omega
  rw [this]; rfl

/-! ### short rights -/

noncomputable def isS (b : t_api_Basin.den) (ro : List t_api_Right.den) (gr : List t_api_Point.den) (i : Nat) : Bool := decide (i < gr.length) && (!(rR b ro i).isEmpty && decide (gotF gr i < rateR ro i))

theorem rR_empty (b : t_api_Basin.den) (ro : List t_api_Right.den) (hn : nP b ≤ 16) (i : Nat) : (!(rR b ro i).isEmpty) = (decide (plR (ro.getD i (Ty.zero t_api_Right)) ≥ 0) && decide (plR (ro.getD i (Ty.zero t_api_Right)) < (nP b : Int))) := by
  obtain ⟨_, _, _, r4⟩ := rch_is b hn (plR (ro.getD i (Ty.zero t_api_Right)))
  have r4' : (0 ≤ plR (ro.getD i (Ty.zero t_api_Right)) ∧ plR (ro.getD i (Ty.zero t_api_Right)) < (nP b : Int)) ↔ rR b ro i ≠ [] := r4
  by_cases h : rR b ro i = []
  · rw [h]
    have : ¬ (0 ≤ plR (ro.getD i (Ty.zero t_api_Right)) ∧ plR (ro.getD i (Ty.zero t_api_Right)) < (nP b : Int)) := fun hh => r4'.1 hh h
    symm
    show _ = false
    rw [← Bool.not_eq_true, Bool.and_eq_true, decide_eq_true_eq, decide_eq_true_eq]
    exact this
  · have hh := r4'.2 h
    rw [decide_eq_true (show plR (ro.getD i (Ty.zero t_api_Right)) ≥ 0 from hh.1), decide_eq_true hh.2]
    cases hr : rR b ro i
    · exact absurd hr h
    · rfl

theorem is_r_is (b : t_api_Basin.den) (ro : List t_api_Right.den) (gr : List t_api_Point.den) (hn : nP b ≤ 16) (i : Nat) (hi : i < ro.length) : is_r b ro gr (i : Int) = some (isS b ro gr i) := by
  unfold is_r is_r_body isS
  rw [rR_empty b ro hn i]
  have eL : (b.2.2.2.1.length : Int) = (nP b : Int) := rfl
  rw [Int.toNat_natCast, eL]
  have eP : (List.getD ro i (Ty.zero t_api_Right)).2.2.2.1 = plR (ro.getD i (Ty.zero t_api_Right)) := rfl
  have eR : (List.getD ro i (Ty.zero t_api_Right)).2.2.2.2.1 = rateR ro i := rfl
  rw [eP, eR]
  generalize plR (ro.getD i (Ty.zero t_api_Right)) = p
  generalize rateR ro i = rt
  rw [inb _ _ hi]
  simp only [cond_true, bind_eta]
  by_cases h1 : i < gr.length
  · have eG : (List.getD gr i (Ty.zero t_api_Point)).2.1 = gotF gr i := by unfold gotF; rw [if_pos h1]
    rw [eG, inb _ _ h1, decide_eq_true (show (i : Int) < (gr.length : Int) by omega), decide_eq_true h1]
    generalize gotF gr i = g
    generalize decide (p ≥ 0) = c1
    generalize decide (p < (nP b : Int)) = c2
    generalize decide (g < rt) = c3
    cases c1 <;> cases c2 <;> cases c3 <;> rfl
  · rw [decide_eq_false (show ¬ (i : Int) < (gr.length : Int) by omega), decide_eq_false h1]
    rfl

theorem short_r_loop_is (b : t_api_Basin.den) (ro : List t_api_Right.den) (gr : List t_api_Point.den) (hn : nP b ≤ 16) (hro : ro.length ≤ 64) : ∀ (k i : Nat) (out : List Int), ro.length < i + k → i ≤ ro.length → out.length ≤ i →
    short_r_loop3 is_r k ro gr (i : Int) b out = some (out ++ ((List.range' i (ro.length - i)).filter (isS b ro gr)).map fun j => idR (ro.getD j (Ty.zero t_api_Right))) := by
  intro k
  induction k with
  | zero => intro i out h hi; omega
  | succ k ih =>
    intro i out h hi0 ho
    unfold short_r_loop3 short_r_loop3_step
    by_cases hi : i < ro.length
    · have hr : List.range' i (ro.length - i) = i :: List.range' (i + 1) (ro.length - (i + 1)) := by
        rw [show ro.length - i = (ro.length - (i + 1)) + 1 by omega, List.range'_succ]
      rw [hr, List.filter_cons, inb _ _ hi, decide_eq_true (show (i : Int) < (ro.length : Int) by omega), is_r_is b ro gr hn i hi, Int.toNat_natCast]
      simp only [cond_true, Option.bind_some]
      rw [app1, roomD (by rw [List.length_append]; simp; omega), wi_id ((i : Int) + 1) (by omega) (by omega)]
      cases isS b ro gr i
      · simp only [cond_false]
        exact ih (i + 1) out (by omega) (by omega) (by omega)
      · simp only [cond_true, if_true, List.map_cons]
        have := ih (i + 1) (out ++ [idR (ro.getD i (Ty.zero t_api_Right))]) (by omega) (by omega) (by rw [List.length_append]; simp; omega)
        rw [List.append_assoc] at this
        exact this
    · have : ro.length - i = 0 := by omega
      rw [decide_eq_false (show ¬ (i : Int) < (ro.length : Int) by omega), cond_false, this]
      simp

theorem short_r_is (b : t_api_Basin.den) (ro : List t_api_Right.den) (gr : List t_api_Point.den) (hn : nP b ≤ 16) (hro : ro.length ≤ 64) : short_r b ro gr = some (((List.range ro.length).filter (isS b ro gr)).map fun j => idR (ro.getD j (Ty.zero t_api_Right))) := by
  unfold short_r short_r_body
  rw [bind_eta]
  have := short_r_loop_is b ro gr hn hro FUEL 0 [] (fuel_gt _ (by omega)) (by omega) (by simp)
  rw [List.nil_append, Nat.sub_zero, ← List.range_eq_range'] at this
  exact this
end Go.Lift.S38
