import Derived.Test.YtbdbjamebjbhnaaPI38
set_option linter.all false
/- What is accepted: the plain law of seat 38. -/
set_option linter.unusedSimpArgs false
set_option linter.unusedVariables false
namespace Go.Lift.S38
open Go Go.Lift Go.Lift.Ar Go.Lift.Gr

noncomputable def mostI (b : t_api_Basin.den) (ro : List t_api_Right.den) (i : Nat) : Int :=
  if rR b ro i = [] then 0 else if (if rateR ro i > 0 then rateR ro i else 0) < 1125899906842624 then (if rateR ro i > 0 then rateR ro i else 0) else 1125899906842624

/-- Right i has a grant that may be. -/
def OkG (b : t_api_Basin.den) (ro : List t_api_Right.den) (s : List Int) (gr : List t_api_Point.den) (i : Nat) : Prop :=
  (gr.getD i (Ty.zero t_api_Point)).1 = idR (ro.getD i (Ty.zero t_api_Right)) ∧ 0 ≤ gotF gr i ∧ gotF gr i ≤ mostI b ro i ∧ (isS b ro gr i = true → 0 ≤ stopV b ro s gr i)

structure ChkP (b : t_api_Basin.den) (ro : List t_api_Right.den) (s : List Int) (gr ex : List t_api_Point.den) : Prop where
  len : gr.length = ro.length
  left : ∀ q : Nat, q < nP b → 0 ≤ fw b ro s gr ro.length (q : Int)
  ok : ∀ i, i < ro.length → OkG b ro s gr i
  exc : ∀ x, x ∈ exL b ro s gr → x ∈ ex

theorem mostI_le (b : t_api_Basin.den) (ro : List t_api_Right.den) (i : Nat) : mostI b ro i ≤ 1125899906842624 ∧ 0 ≤ mostI b ro i ∧ (mostI b ro i ≤ rateR ro i ∨ mostI b ro i = 0) ∧ (rR b ro i = [] → mostI b ro i = 0) := by
  unfold mostI
  by_cases h : rR b ro i = []
  · rw [if_pos h]; exact ⟨by omega, by omega, .inr rfl, fun _ => rfl⟩
  · rw [if_neg h]
    refine ⟨?_, ?_, ?_, fun h' => absurd h' h⟩
    · split <;> omega
    · split <;> (try split) <;> omega
    · by_cases hr : rateR ro i > 0
      · rw [if_pos hr]; left; split <;> omega
      · rw [if_neg hr, if_pos (by omega)]; exact .inr rfl

theorem isS_iff (b : t_api_Basin.den) (ro : List t_api_Right.den) (gr : List t_api_Point.den) (i : Nat) : isS b ro gr i = true ↔ i < gr.length ∧ rR b ro i ≠ [] ∧ gotF gr i < rateR ro i := by
  unfold isS
  simp only [Bool.and_eq_true, decide_eq_true_eq, Bool.not_eq_true', List.isEmpty_eq_false_iff]

/-- Without overflow, what is left is what is left. -/
theorem fw_fl (b : t_api_Basin.den) (ro : List t_api_Right.den) (s : List Int) (gr : List t_api_Point.den) (hs : ∀ x, x ∈ s → InR x) (hro : ro.length ≤ 64) (hg : ∀ i, i < ro.length → 0 ≤ gotF gr i ∧ gotF gr i ≤ 9223372036854775807) : ∀ (i : Nat), i ≤ ro.length →
    (∀ q, q ∈ (List.range (nP b)).map (fun k : Nat => (k : Int)) → 0 ≤ fl (rR b ro) (MS b s) (gotF gr) ro.length q) → ∀ q, q ∈ (List.range (nP b)).map (fun k : Nat => (k : Int)) → fw b ro s gr i q = fl (rR b ro) (MS b s) (gotF gr) i q := by
  intro i hi h0 q hq
  induction i with
  | zero => rfl
  | succ i ih =>
    have ih := ih (by omega)
    simp only [fw, fl]
    rw [ih]
    by_cases hm : q ∈ rR b ro i
    · rw [if_pos hm, if_pos hm]
      have h1 := fl_le (R := rR b ro) (L0 := MS b s) (g := gotF gr) (q := q) (i := i + 1) (m := ro.length) hi (fun j _ hj => (hg j hj).1)
      simp only [fl] at h1
      rw [if_pos hm] at h1
      have h2 := h0 q hq
      have h3 := fl_le (R := rR b ro) (L0 := MS b s) (g := gotF gr) (q := q) (i := 0) (m := i) (by omega) (fun j _ hj => (hg j (by omega)).1)
      have h4 := (BS_in b s hs (nP b) q).2
      unfold InR at h4
      have h5 : fl (rR b ro) (MS b s) (gotF gr) 0 q = MS b s q := rfl
      have h6 : MS b s q ≤ 9223372036854775807 := h4.2
      have h7 := (hg i (by omega)).1
      rw [wi_id _ (by omega) (by omega)]
    · rw [if_neg hm, if_neg hm]; omega

theorem fw_low (b : t_api_Basin.den) (ro : List t_api_Right.den) (s : List Int) (gr : List t_api_Point.den) (hs : ∀ x, x ∈ s → InR x) (hro : ro.length ≤ 64) (hg : ∀ i, i < ro.length → 0 ≤ gotF gr i ∧ gotF gr i ≤ 1125899906842624) (q : Int) : ∀ (i : Nat), i ≤ ro.length →
    fw b ro s gr i q = fl (rR b ro) (MS b s) (gotF gr) i q ∧ -((i : Int) * 1125899906842624) ≤ fl (rR b ro) (MS b s) (gotF gr) i q ∧ fl (rR b ro) (MS b s) (gotF gr) i q ≤ 9223372036854775807
  | 0, _ => by
    have h := BS_in b s hs (nP b) q
    have h1 := h.1
    have h2 := h.2.2
    refine ⟨rfl, ?_, h2⟩
    show -(((0 : Nat) : Int) * 1125899906842624) ≤ MS b s q
    have h3 : 0 ≤ MS b s q := h1
    omega
  | i + 1, hi => by
    obtain ⟨e, l1, l2⟩ := fw_low b ro s gr hs hro hg q i (by omega)
    have hgi := hg i (by omega)
    simp only [fw, fl]
    rw [e]
    by_cases hm : q ∈ rR b ro i
    · rw [if_pos hm, if_pos hm, wi_id _ (by omega) (by omega)]
      refine ⟨rfl, ?_, by omega⟩
      rw [Int.natCast_add, Int.add_mul]; omega
    · rw [if_neg hm, if_neg hm]
      refine ⟨by omega, ?_, by omega⟩
      rw [Int.natCast_add, Int.add_mul]; omega

theorem rR_good (b : t_api_Basin.den) (ro : List t_api_Right.den) (hn : nP b ≤ 16) (i : Nat) : Good (nP b) (rR b ro i) := (rch_is b hn (plR (ro.getD i (Ty.zero t_api_Right)))).2.2.1

noncomputable def dayL (b : t_api_Basin.den) (ro : List t_api_Right.den) (s : List Int) : List t_api_Point.den := (List.range ro.length).map (grL b ro s)
theorem dayL_length (b : t_api_Basin.den) (ro : List t_api_Right.den) (s : List Int) : (dayL b ro s).length = ro.length := by simp [dayL]
theorem dayL_getD (b : t_api_Basin.den) (ro : List t_api_Right.den) (s : List Int) (i : Nat) (h : i < ro.length) : (dayL b ro s).getD i (Ty.zero t_api_Point) = grL b ro s i := getD_map_range _ _ _ _ h
theorem dayL_got (b : t_api_Basin.den) (ro : List t_api_Right.den) (s : List Int) (i : Nat) (h : i < ro.length) : gotF (dayL b ro s) i = gD b ro s i := by
  unfold gotF
  rw [if_pos (by rw [dayL_length]; exact h), dayL_getD _ _ _ _ h]; rfl

/-- Only the day's grants are accepted. -/
theorem ChkP.only {b : t_api_Basin.den} {ro : List t_api_Right.den} {s : List Int} {gr ex : List t_api_Point.den} (hs : ∀ x, x ∈ s → InR x) (hn : nP b ≤ 16) (hro : ro.length ≤ 64) (h : ChkP b ro s gr ex) : gr = dayL b ro s := by
  have hg : ∀ i, i < ro.length → 0 ≤ gotF gr i ∧ gotF gr i ≤ 1125899906842624 := fun i hi => by
    obtain ⟨_, h2, h3, _⟩ := h.ok i hi
    have := (mostI_le b ro i).1
    exact ⟨h2, by omega⟩
  have hfl : ∀ i, i < ro.length → ∀ q, q ∈ rR b ro i → fw b ro s gr ro.length q = fl (rR b ro) (MS b s) (gotF gr) ro.length q ∧ 0 ≤ fw b ro s gr ro.length q := fun i hi q hq => by
    have hb := (rR_good b ro hn i).2 q hq
    have := h.left q.toNat (by omega)
    rw [Int.toNat_of_nonneg hb.1] at this
    exact ⟨(fw_low b ro s gr hs hro hg q ro.length (Nat.le_refl _)).1, this⟩
  have h0 : ∀ i, i < ro.length → ∀ q, q ∈ rR b ro i → 0 ≤ MS b s q := fun i _ q _ => (BS_in b s hs (nP b) q).1
  have hA : Acc (rR b ro) (rateR ro) (MS b s) (gotF gr) ro.length := by
    refine ⟨fun i hi => (hg i hi).1, fun i hi => ?_, fun i hi hR => ?_, fun i hi q hq => ?_, fun i hi hR hlt => ?_⟩
    · obtain ⟨_, h2, h3, _⟩ := h.ok i hi
      have := (mostI_le b ro i).2.2.1
      omega
    · obtain ⟨_, h2, h3, _⟩ := h.ok i hi
      have := (mostI_le b ro i).2.2.2 hR
      omega
    · rw [← (hfl i hi q hq).1]; exact (hfl i hi q hq).2
    · obtain ⟨_, _, _, h4⟩ := h.ok i hi
      have h5 := h4 ((isS_iff b ro gr i).2 ⟨by rw [h.len]; exact hi, hR, hlt⟩)
      rcases (stopV_is b ro s gr i hs hn hro hi).2 with ⟨e, _⟩ | ⟨j, h6, h7, h8, _⟩
      · rw [e] at h5; omega
      · have hm : stopV b ro s gr i ∈ rR b ro i := by rw [h7]; exact getD_mem _ _ _ h6
        refine ⟨_, hm, ?_, fun k hk1 hk2 hk3 hk4 => h8.2 k hk1 hk2 hk4 hk3⟩
        rw [← (hfl i hi _ hm).1]; exact h8.1
  have hD := day_gS (rR b ro) (rateR ro) (MS b s) ro.length
  have e := hA.only hD h0
  refine ext_getD2 (Ty.zero t_api_Point) (by rw [h.len, dayL_length]) fun i hi => ?_
  have hi' : i < ro.length := by rw [← h.len]; exact hi
  rw [dayL_getD _ _ _ _ hi']
  have h1 := (h.ok i hi').1
  have h2 := e i hi'
  unfold gotF at h2
  rw [if_pos hi] at h2
  show _ = (idR (ro.getD i (Ty.zero t_api_Right)), gD b ro s i, ())
  rw [← h1]
  show _ = (_, gS (rR b ro) (rateR ro) (MS b s) i, ())
  rw [← h2]

theorem day_halt (b : t_api_Basin.den) (ro : List t_api_Right.den) (s : List Int) (hs : ∀ x, x ∈ s → InR x) (hn : nP b ≤ 16) (hro : ro.length ≤ 64) (hS : sumP s 16 ≤ 1125899906842624) : (∀ i, i < ro.length → 0 ≤ gD b ro s i ∧ gD b ro s i ≤ mostI b ro i) ∧ (∀ q, fw b ro s (dayL b ro s) ro.length q = fl (rR b ro) (MS b s) (gD b ro s) ro.length q) := by
  have hD := day_gS (rR b ro) (rateR ro) (MS b s) ro.length
  have hg : ∀ i, i < ro.length → 0 ≤ gD b ro s i ∧ gD b ro s i ≤ mostI b ro i := fun i hi => by
    refine ⟨hD.nonneg hi, ?_⟩
    by_cases hR : rR b ro i = []
    · have := hD.none i hi hR
      show gS (rR b ro) (rateR ro) (MS b s) i ≤ _
      rw [this]; exact (mostI_le b ro i).2.1
    · have h1 := hD.some i hi hR
      obtain ⟨q, l, hq⟩ := List.exists_cons_of_ne_nil hR
      have hqm : q ∈ rR b ro i := by rw [hq]; simp
      have h2 := leastS_le (fl (rR b ro) (MS b s) (gS (rR b ro) (rateR ro) (MS b s)) i) (rR b ro i) (rateR ro i)
      have h3 := h2.2 q hqm
      have h4 := fl_le (R := rR b ro) (L0 := MS b s) (g := gS (rR b ro) (rateR ro) (MS b s)) (q := q) (i := 0) (m := i) (by omega) (fun j _ hj => hD.nonneg (by omega))
      have h5 : fl (rR b ro) (MS b s) (gS (rR b ro) (rateR ro) (MS b s)) 0 q = BS b s (nP b) q := rfl
      have h6 := sumP_mono s (i := nP b) 16 hn
      have h7 := BS_le b s q (nP b) (by omega)
      show gS (rR b ro) (rateR ro) (MS b s) i ≤ _
      have h8 : gS (rR b ro) (rateR ro) (MS b s) i ≤ 1125899906842624 := by
        rw [h1]; split <;> omega
      unfold mostI
      rw [if_neg hR]
      by_cases hr : rateR ro i > 0
      · rw [if_pos hr]
        have : gS (rR b ro) (rateR ro) (MS b s) i ≤ rateR ro i := by rw [h1]; split <;> omega
        split <;> omega
      · rw [if_neg hr, if_pos (by omega)]
        rw [h1]; split <;> omega
  refine ⟨hg, fun q => ?_⟩
  have h1 := fw_low b ro s (dayL b ro s) hs hro (fun i hi => by
    rw [dayL_got b ro s i hi]
    have := hg i hi
    have := (mostI_le b ro i).1
    omega) q ro.length (Nat.le_refl _)
  rw [h1.1]
  exact fl_congr fun i hi => dayL_got b ro s i hi

/-- Each short right of the day is stopped. -/
theorem day_stop (b : t_api_Basin.den) (ro : List t_api_Right.den) (s : List Int) (hs : ∀ x, x ∈ s → InR x) (hn : nP b ≤ 16) (hro : ro.length ≤ 64) (hS : sumP s 16 ≤ 1125899906842624) (i : Nat) (hi : i < ro.length) (hR : rR b ro i ≠ []) (hlt : gD b ro s i < rateR ro i) :
    let r := stopV b ro s (dayL b ro s) i; r ∈ rR b ro i ∧ fl (rR b ro) (MS b s) (gD b ro s) ro.length r = 0 ∧ ∀ k, i < k → k < ro.length → 0 < gD b ro s k → r ∉ rR b ro k := by
  intro r
  have hD := day_gS (rR b ro) (rateR ro) (MS b s) ro.length
  have h0 : ∀ i, i < ro.length → ∀ q, q ∈ rR b ro i → 0 ≤ MS b s q := fun i _ q _ => (BS_in b s hs (nP b) q).1
  obtain ⟨hg, hfl⟩ := day_halt b ro s hs hn hro hS
  have hH : ∀ q, Halt b ro s (dayL b ro s) i q ↔ (fl (rR b ro) (MS b s) (gD b ro s) ro.length q ≤ 0 ∧ ∀ k, i < k → k < ro.length → q ∈ rR b ro k → ¬ 0 < gD b ro s k) := fun q => by
    unfold Halt
    rw [hfl]
    refine and_congr Iff.rfl ⟨fun h k h1 h2 h3 => ?_, fun h k h1 h2 h3 => ?_⟩
    · have := h k h1 h2 h3; rwa [dayL_got b ro s k h2] at this
    · rw [dayL_got b ro s k h2]; exact h k h1 h2 h3
  obtain ⟨q, h1, h2, h3⟩ := Day.stop hD h0 hi hR hlt
  rcases (stopV_is b ro s (dayL b ro s) i hs hn hro hi).2 with ⟨_, h⟩ | ⟨j, h6, h7, h8, _⟩
  · exact absurd ((hH q).2 ⟨by rw [h2]; exact Int.le_refl _, fun k a b' c d => h3 k a b' d c⟩) (h q h1)
  · have hm : r ∈ rR b ro i := by show stopV _ _ _ _ _ ∈ _; rw [h7]; exact getD_mem _ _ _ h6
    have h9 := (hH r).1 h8
    refine ⟨hm, ?_, fun k a b' c d => h9.2 k a b' d c⟩
    have := (fl_in b ro s hs ro.length r).1
    omega

/-- The day's grants are accepted. -/
theorem day_chk (b : t_api_Basin.den) (ro : List t_api_Right.den) (s : List Int) (ex : List t_api_Point.den) (hs : ∀ x, x ∈ s → InR x) (hn : nP b ≤ 16) (hro : ro.length ≤ 64) (hS : sumP s 16 ≤ 1125899906842624) (hex : ∀ x, x ∈ exL b ro s (dayL b ro s) → x ∈ ex) : ChkP b ro s (dayL b ro s) ex := by
  obtain ⟨hg, hfl⟩ := day_halt b ro s hs hn hro hS
  refine ⟨dayL_length b ro s, fun q hq => ?_, fun i hi => ⟨?_, ?_, ?_, fun h => ?_⟩, hex⟩
  · rw [hfl]; exact (fl_in b ro s hs ro.length (q : Int)).1
  · rw [dayL_getD _ _ _ _ hi]; rfl
  · rw [dayL_got _ _ _ _ hi]; exact (hg i hi).1
  · rw [dayL_got _ _ _ _ hi]; exact (hg i hi).2
  · obtain ⟨_, h2, h3⟩ := (isS_iff b ro (dayL b ro s) i).1 h
    rw [dayL_got _ _ _ _ hi] at h3
    have := day_stop b ro s hs hn hro hS i hi h2 h3
    exact ((rR_good b ro hn i).2 _ this.1).1
end Go.Lift.S38
