import Derived.Test.YtbdbjamebjbhnaaPK38
import Derived.KernelRfl
set_option linter.all false
/- The statement CallStops. -/
set_option linter.unusedSimpArgs false
set_option linter.unusedVariables false
namespace Go.Lift.S38
open Go Go.Lift Go.Lift.Ar Go.Lift.Gr Go.Proofs

set_option maxRecDepth 100000 in
theorem small_true : small = some true := by kernel_rfl

theorem stops19_is (b : t_api_Basin.den) (ro : List t_api_Right.den) (s : List Int) (head : Bool) (i : Nat) (st : Int) (left : List Int) (hn : nP b ≤ 16) (hro : ro.length ≤ 64) (hb : 0 ≤ st ∧ st < (nP b : Int)) (h : ∀ k, i < k → k < ro.length → 0 < gD b ro s k → st ∉ rR b ro k) (sm : Option Bool) :
    ∀ (f k : Nat), ro.length < k + f → k ≤ ro.length → i < k →
      stops_loop19 rch has day futile modest few stopAt sm f ro s head (i : Int) st (k : Int) b (dayL b ro s) left = some (.inl (ro, s, head, (i : Int), b, dayL b ro s, left)) := by
  intro f
  induction f with
  | zero => intro k h1 h2; omega
  | succ f ih =>
    intro k h1 h2 h3
    unfold stops_loop19 stops_loop19_step
    by_cases hk : k < ro.length
    · rw [inb k (dayL b ro s).length (by rw [dayL_length]; exact hk), inb _ _ hk, decide_eq_true (show (k : Int) < (ro.length : Int) by omega), Int.toNat_natCast, Nat.zero_add, dayL_getD _ _ _ _ hk, (futile_is b st _ hn).1]
      simp only [cond_true, Option.bind_some]
      rw [wi_id ((k : Int) + 1) (by omega) (by omega)]
      have eg : (grL b ro s k).2.1 = gD b ro s k := rfl
      rw [eg]
      by_cases hg : 0 < gD b ro s k
      · rw [decide_eq_true (show gD b ro s k > 0 from hg)]
        have hm : st ∉ RS b (plR (List.getD ro k (Ty.zero t_api_Right))) := h k h3 hk hg
        rw [decide_eq_true hb.1, decide_eq_true hb.2, decide_eq_false hm]
        exact ih (k + 1) (by omega) (by omega) (by omega)
      · rw [decide_eq_false (show ¬ gD b ro s k > 0 from hg)]
        exact ih (k + 1) (by omega) (by omega) (by omega)
    · rw [decide_eq_false (show ¬ (k : Int) < (ro.length : Int) by omega), cond_false]

theorem stops10_is (b : t_api_Basin.den) (ro : List t_api_Right.den) (s : List Int) (head : Bool) (hs : ∀ x, x ∈ s → InR x) (hn : nP b ≤ 16) (hro : ro.length ≤ 64) (hS : sumP s 16 ≤ 1125899906842624) (sm : Option Bool) :
    ∀ (f i : Nat), ro.length < i + f → i ≤ ro.length →
      stops_loop10 rch has day futile modest few stopAt sm f ro s head (i : Int) b (dayL b ro s) (lfL b (fl (rR b ro) (MS b s) (gD b ro s) ro.length)) = some (.inl head) := by
  intro f
  induction f with
  | zero => intro k h1 h2; omega
  | succ f ih =>
    intro i h1 h2
    unfold stops_loop10 stops_loop10_step
    by_cases hi : i < ro.length
    · have hg := rR_good b ro hn i
      have hlen := hg.len
      have r1' : rch b (List.getD ro i (Ty.zero t_api_Right)).2.2.2.1 = some (rR b ro i) := (rch_is b hn (plR (ro.getD i (Ty.zero t_api_Right)))).1
      obtain ⟨hst, r, hr⟩ := stopAt_is b ro s (dayL b ro s) hs hn hro (i : Int)
      have hV := (stopV_is b ro s (dayL b ro s) i hs hn hro hi).1
      rw [inb i ro.length hi, inb i (dayL b ro s).length (by rw [dayL_length]; exact hi), decide_eq_true (show (i : Int) < (ro.length : Int) by omega), Int.toNat_natCast, Nat.zero_add, dayL_getD _ _ _ _ hi, r1', hst, hV]
      simp only [cond_true, Option.bind_some]
      have eg : (grL b ro s i).2.1 = gD b ro s i := rfl
      have er : (List.getD ro i (Ty.zero t_api_Right)).2.2.2.2.1 = rateR ro i := rfl
      rw [eg, er, wi_id ((i : Int) + 1) (by omega) (by omega)]
      by_cases hR : rR b ro i = []
      · have e0 : (((rR b ro i).length : Int) == 0) = true := by rw [hR]; rfl
        rw [e0]
        exact ih (i + 1) (by omega) (by omega)
      · have e0 : (((rR b ro i).length : Int) == 0) = false := by
          rw [beq_eq_false_iff_ne]
          intro e
          exact hR (List.eq_nil_of_length_eq_zero (by omega))
        rw [e0]
        by_cases hlt : gD b ro s i < rateR ro i
        · obtain ⟨d1, d2, d3⟩ := day_stop b ro s hs hn hro hS i hi hR hlt
          have hb := hg.2 _ d1
          rw [decide_eq_false (show ¬ gD b ro s i ≥ rateR ro i by omega), has_is _ _ (by omega), decide_eq_true d1]
          simp only [cond_false, Option.bind_some, Bool.not_true]
          have e1 : (decide (0 ≤ stopV b ro s (dayL b ro s) i) && decide (stopV b ro s (dayL b ro s) i < ((lfL b (fl (rR b ro) (MS b s) (gD b ro s) ro.length)).length : Int))) = true := by
            rw [lfL_length, Bool.and_eq_true, decide_eq_true_eq, decide_eq_true_eq]; exact hb
          rw [e1, Nat.zero_add, lfL_getD _ _ _ (by omega), Int.toNat_of_nonneg hb.1, d2]
          simp only [cond_true, Option.bind_some, bne_self_eq_false, cond_false]
          have g : stops_loop19 rch has day futile modest few stopAt sm FUEL ro s head (i : Int) (stopV b ro s (dayL b ro s) i) ((i : Int) + 1) b (dayL b ro s) (lfL b (fl (rR b ro) (MS b s) (gD b ro s) ro.length)) = _ := stops19_is b ro s head i _ _ hn hro hb d3 sm FUEL (i + 1) (by have := fuel_gt ro.length (by omega); omega) (by omega) (by omega)
          rw [g]
          simp only [Option.bind_some, Sum.elim]
          rw [wi_id ((i : Int) + 1) (by omega) (by omega)]
          exact ih (i + 1) (by omega) (by omega)
        · rw [decide_eq_true (show gD b ro s i ≥ rateR ro i by omega)]
          exact ih (i + 1) (by omega) (by omega)
    · rw [decide_eq_false (show ¬ (i : Int) < (ro.length : Int) by omega), cond_false]

theorem stops_true (b : t_api_Basin.den) (ro : List t_api_Right.den) (s : List Int) (hs : ∀ x, x ∈ s → InR x) : stops b ro s = some true := by
  unfold stops stops_body
  obtain ⟨f, f1, f2⟩ := few_is b ro (nilOf (Ty.den t_api_Grant))
  obtain ⟨m, m1, m2⟩ := modest_is s
  rw [small_true, f1, m1]
  simp only [Option.bind_some, sc_or]
  cases f
  · rfl
  · cases m
    · rfl
    · obtain ⟨hn, hro, _⟩ := f2 rfl
      have hS := m2 rfl
      simp only [Bool.not_true, Bool.or_self, cond_false]
      have hd : day b ro s = some (dayL b ro s, _) := day_is b ro s hs hn (by omega)
      rw [hd]
      simp only [Option.bind_some]
      rw [dayL_length, bne_self_eq_false, cond_false]
      have g : stops_loop10 rch has day futile modest few stopAt (some true) FUEL ro s true 0 b (dayL b ro s) (lfL b (fl (rR b ro) (MS b s) (gD b ro s) ro.length)) = _ := stops10_is b ro s true hs hn (by omega) hS (some true) FUEL 0 (fuel_gt _ (by omega)) (by omega)
      rw [g]
      rfl
end Go.Lift.S38
