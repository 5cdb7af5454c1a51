import Derived.Test.YtbdbjamebjbhnaaNS38
import Derived.Test.YtbdbjamebjbhnaaPL
import Derived.Test.YtbdbjamebjbhnaaPG38
set_option linter.all false
/- Adding, finding, and the reaches of seat 38. -/
set_option linter.unusedSimpArgs false
set_option linter.unusedVariables false
namespace Go.Lift.S38
open Go Go.Lift Go.Lift.Ar

theorem fuel_gt (n : Nat) (h : n ≤ 9223372036854775807) : n < 0 + FUEL := by
  have : FUEL = 18446744073709551616 := rfl
  omega

theorem add_eq (a b : Int) (ha : InR a) (hb : InR b) : add a b = some (sat (a + b)) := by
  unfold add add_body end_ end__body
  rw [wi_mod]
  unfold InR at ha hb
  by_cases h1 : a < 0 <;> by_cases h2 : b < 0 <;> by_cases h3 : (a + b + 9223372036854775808) % 18446744073709551616 - 9223372036854775808 < 0 <;>
    simp only [h1, h2, h3, decide_true, decide_false, beq_self_eq_true, Bool.true_beq, Bool.false_beq, Bool.not_true, Bool.not_false, cond_true, cond_false, Option.bind_some, Option.some.injEq] <;>
    unfold sat <;> (repeat' split) <;> omega

theorem add_r_eq (a b : Int) (ha : InR a) (hb : InR b) : add_r a b = some (sat (a + b)) := by
  unfold add_r add_r_body
  unfold InR at ha hb
  simp only [sc_and, Option.bind_some]
  by_cases h1 : b > 0
  · rw [wi_id (9223372036854775807 - b) (by omega) (by omega)]
    by_cases h2 : a > 9223372036854775807 - b
    · simp only [h1, h2, decide_true, Bool.and_self, cond_true, Option.some.injEq]
      unfold sat; (repeat' split) <;> omega
    · have h3 : ¬ b < 0 := by omega
      simp only [h1, h2, h3, decide_true, decide_false, Bool.and_false, Bool.false_and, cond_false, Option.some.injEq]
      rw [wi_id _ (by omega) (by omega), sat_of (by unfold InR; omega)]
  · by_cases h3 : b < 0
    · rw [wi_id (-9223372036854775808 - b) (by omega) (by omega)]
      by_cases h2 : a < -9223372036854775808 - b
      · simp only [h1, h2, h3, decide_true, decide_false, Bool.and_self, Bool.false_and, cond_true, cond_false, Option.some.injEq]
        unfold sat; (repeat' split) <;> omega
      · simp only [h1, h2, h3, decide_true, decide_false, Bool.and_false, Bool.false_and, cond_false, Option.some.injEq]
        rw [wi_id _ (by omega) (by omega), sat_of (by unfold InR; omega)]
    · simp only [h1, h3, decide_true, decide_false, Bool.and_false, Bool.false_and, cond_false, Option.some.injEq]
      rw [wi_id _ (by omega) (by omega), sat_of (by unfold InR; omega)]

theorem wi_in (n : Int) : InR (wi n) := by unfold InR; rw [wi_mod]; omega

/-! ### finding -/

theorem index_loop_is (s : List Int) (v : Int) (hl : s.length ≤ 9223372036854775807) : ∀ (k i : Nat), s.length < i + k → i ≤ s.length →
    (v ∉ s.drop i ∧ index_loop2 k s v (s.length : Int) (i : Int) = some (.inl ())) ∨ (v ∈ s.drop i ∧ ∃ j : Nat, index_loop2 k s v (s.length : Int) (i : Int) = some (.inr (j : Int))) := by
  intro k
  induction k with
  | zero => intro i h hi; omega
  | succ k ih =>
    intro i h hi0
    unfold index_loop2 index_loop2_step
    rw [Int.toNat_natCast]
    by_cases hi : i < s.length
    · rw [drop_cons s i 0 hi, inb _ _ hi, decide_eq_true (show (i : Int) < (s.length : Int) by omega)]
      generalize List.getD s i 0 = x at *
      simp only [cond_true]
      by_cases hx : v = x
      · subst hx
        rw [beq_self_eq_true, cond_true]
        exact .inr ⟨by simp, i, rfl⟩
      · rw [beq_eq_false_iff_ne.2 hx, cond_false, wi_id ((i : Int) + 1) (by omega) (by omega)]
        rcases ih (i + 1) (by omega) (by omega) with ⟨h1, h2⟩ | ⟨h1, h2⟩
        · exact .inl ⟨by simp [hx, h1], h2⟩
        · exact .inr ⟨by simp [h1], h2⟩
    · rw [decide_eq_false (show ¬ (i : Int) < (s.length : Int) by omega), cond_false, List.drop_eq_nil_of_le (by omega)]
      exact .inl ⟨by simp, rfl⟩

theorem contains_is (s : List Int) (v : Int) (hl : s.length ≤ 9223372036854775807) : contains s v = some (decide (v ∈ s)) := by
  unfold contains contains_body index index_body
  rcases index_loop_is s v hl FUEL 0 (fuel_gt _ hl) (by omega) with ⟨h1, h2⟩ | ⟨h1, j, h2⟩
  · have h2' : index_loop2 FUEL s v (s.length : Int) 0 = _ := h2
    rw [h2']
    rw [List.drop_zero] at h1
    simp only [Option.bind_some, Sum.elim, h1, decide_false, Option.some.injEq, decide_eq_false_iff_not]
    omega
  · have h2' : index_loop2 FUEL s v (s.length : Int) 0 = _ := h2
    rw [h2']
    rw [List.drop_zero] at h1
    simp only [Option.bind_some, Sum.elim, h1, decide_true, Option.some.injEq, decide_eq_true_eq]
    omega

theorem has_loop_is (s : List Int) (v : Int) (hl : s.length ≤ 9223372036854775807) : ∀ (k i : Nat), s.length < i + k → i ≤ s.length →
    has_loop2 k s v (i : Int) = some (if v ∈ s.drop i then .inr true else .inl ()) := by
  intro k
  induction k with
  | zero => intro i h hi; omega
  | succ k ih =>
    intro i h hi0
    unfold has_loop2 has_loop2_step
    rw [Int.toNat_natCast]
    by_cases hi : i < s.length
    · rw [drop_cons s i 0 hi, inb _ _ hi, decide_eq_true (show (i : Int) < (s.length : Int) by omega)]
      generalize List.getD s i 0 = x at *
      simp only [cond_true]
      by_cases hx : x = v
      · subst hx
        rw [beq_self_eq_true, cond_true, if_pos (by simp)]
      · rw [beq_eq_false_iff_ne.2 hx, cond_false, wi_id ((i : Int) + 1) (by omega) (by omega)]
        have h2 := ih (i + 1) (by omega) (by omega)
        have h2' : has_loop2 k s v ((i : Int) + 1) = _ := h2
        rw [h2']
        by_cases hm : v ∈ s.drop (i + 1)
        · rw [if_pos hm, if_pos (by simp [hm])]
        · rw [if_neg hm, if_neg (by simp [hm]; exact fun e => hx e.symm)]
    · rw [decide_eq_false (show ¬ (i : Int) < (s.length : Int) by omega), cond_false, List.drop_eq_nil_of_le (by omega), if_neg (by simp)]

theorem has_is (s : List Int) (v : Int) (hl : s.length ≤ 9223372036854775807) : has s v = some (decide (v ∈ s)) := by
  unfold has has_body
  have h2 : has_loop2 FUEL s v 0 = _ := has_loop_is s v hl FUEL 0 (fuel_gt _ hl) (by omega)
  rw [h2, List.drop_zero]
  by_cases h : v ∈ s
  · rw [if_pos h, decide_eq_true h]; rfl
  · rw [if_neg h, decide_eq_false h]; rfl

/-! ### the reaches -/

theorem few_of_nodup : ∀ (n : Nat) (l : List Int), l.Nodup → (∀ x, x ∈ l → 0 ≤ x ∧ x < (n : Int)) → l.length ≤ n
  | 0, l, _, h => by
    cases l with
    | nil => simp
    | cons x l => have := h x (by simp); omega
  | n + 1, l, hn, h => by
    by_cases hm : (n : Int) ∈ l
    · have h1 := few_of_nodup n (l.erase (n : Int)) (hn.erase _) (fun x hx => by
        have h2 := (List.Nodup.mem_erase_iff hn).1 hx
        have := h x h2.2
        have := h2.1
        omega)
      rw [List.length_erase_of_mem hm] at h1
      omega
    · exact Nat.le_succ_of_le (few_of_nodup n l hn (fun x hx => by
        have := h x hx
        have : x ≠ (n : Int) := fun e => hm (e ▸ hx)
        omega))

def nP (b : t_api_Basin.den) : Nat := b.2.2.2.1.length

/-- Places of a basin, each at most once. -/
def Good (n : Nat) (l : List Int) : Prop := l.Nodup ∧ ∀ x, x ∈ l → 0 ≤ x ∧ x < (n : Int)

theorem Good.len {n : Nat} {l : List Int} (h : Good n l) : l.length ≤ n := few_of_nodup n l h.1 h.2

theorem isp_is (b : t_api_Basin.den) (p : Int) : isp b p = some (decide (p ≥ 0) && decide (p < (nP b : Int))) := by
  unfold isp isp_body
  simp only [sc_and, Option.bind_some]
  rfl

theorem rch_loop_is (b : t_api_Basin.den) (hn : nP b ≤ 16) : ∀ (k : Nat) (p : Int) (out : List Int), Good (nP b) out → nP b < out.length + k →
    ∃ l, rch_loop2 isp contains k p b out = some l ∧ (reach_r_loop2 has k p b out = some (.inl l) ∨ reach_r_loop2 has k p b out = some (.inr l)) ∧ Good (nP b) l ∧
      ((0 ≤ p ∧ p < (nP b : Int) ∧ p ∉ out → p ∈ l) ∧ (¬ (0 ≤ p ∧ p < (nP b : Int)) → l = out)) ∧ ∀ x, x ∈ out → x ∈ l := by
  intro k
  induction k with
  | zero => intro p out hg h; have := hg.len; omega
  | succ k ih =>
    intro p out hg h
    have hlen := hg.len
    unfold rch_loop2 rch_loop2_step reach_r_loop2 reach_r_loop2_step
    have eL : (b.2.2.2.1.length : Int) = (nP b : Int) := rfl
    rw [isp_is, eL]
    simp only [sc_and, Option.bind_some]
    by_cases hp : 0 ≤ p ∧ p < (nP b : Int)
    · have e1 : (decide (p ≥ 0) && decide (p < (nP b : Int))) = true := by simp; omega
      rw [e1, contains_is out p (by omega), has_is out p (by omega)]
      simp only [cond_true, Option.bind_some]
      by_cases hm : p ∈ out
      · rw [decide_eq_true hm]
        exact ⟨out, rfl, .inl rfl, hg, ⟨fun h => absurd hm h.2.2, fun h => absurd hp h⟩, fun x hx => hx⟩
      · rw [decide_eq_false hm]
        simp only [Bool.not_false, cond_true]
        rw [app1]
        have hg' : Good (nP b) (out ++ [p]) := by
          refine ⟨List.nodup_append.2 ⟨hg.1, by simp, fun x hx y hy => ?_⟩, fun x hx => ?_⟩
          · rw [List.mem_singleton.1 hy]
            exact fun e => hm (e ▸ hx)
          · rcases List.mem_append.1 hx with hx | hx
            · exact hg.2 x hx
            · rw [List.mem_singleton.1 hx]; exact hp
        have hl' := hg'.len
        rw [roomD (by omega)]
        simp only [cond_true]
        have hpm : p ∈ out ++ [p] := by simp
        generalize hd : decide ((List.getD b.2.2.2.1 (Int.toNat p) (Ty.zero t_api_Place)).2.2.2.2.2.2.2.2.2.1 ≥ 24) = d
        cases d
        · simp only [cond_false]
          obtain ⟨l, l1, l2, l3, l4, l5⟩ := ih ((List.getD b.2.2.2.1 (Int.toNat p) (Ty.zero t_api_Place)).2.2.2.2.2.2.2.2.1) (out ++ [p]) hg' (by rw [List.length_append]; simp; omega)
          exact ⟨l, l1, l2, l3, ⟨fun _ => l5 p hpm, fun h => absurd hp h⟩, fun x hx => l5 x (by simp [hx])⟩
        · simp only [cond_true]
          exact ⟨_, rfl, .inr rfl, hg', ⟨fun _ => hpm, fun h => absurd hp h⟩, fun x hx => by simp [hx]⟩
    · have e1 : (decide (p ≥ 0) && decide (p < (nP b : Int))) = false := by
        rw [← Bool.not_eq_true, Bool.and_eq_true, decide_eq_true_eq, decide_eq_true_eq]; exact hp
      rw [e1]
      simp only [cond_false, Option.bind_some]
      exact ⟨out, rfl, .inl rfl, hg, ⟨fun h => absurd ⟨h.1, h.2.1⟩ hp, fun _ => rfl⟩, fun x hx => hx⟩

theorem reach_ex (b : t_api_Basin.den) (hn : nP b ≤ 16) (p : Int) : ∃ l, rch b p = some l ∧ reach_r b p = some l ∧ Good (nP b) l ∧ ((0 ≤ p ∧ p < (nP b : Int)) ↔ l ≠ []) := by
  unfold rch rch_body reach_r reach_r_body
  obtain ⟨l, l1, l2, l3, l4, l5⟩ := rch_loop_is b hn FUEL p [] ⟨by simp, by simp⟩ (fuel_gt _ (by omega))
  have l1' : rch_loop2 isp contains FUEL p b (nilOf Int) = some l := l1
  rw [l1']
  refine ⟨l, rfl, ?_, l3, fun h e => ?_, fun h => ?_⟩
  · rcases l2 with l2 | l2
    · have l2' : reach_r_loop2 has FUEL p b (nilOf Int) = _ := l2
      rw [l2']; rfl
    · have l2' : reach_r_loop2 has FUEL p b (nilOf Int) = _ := l2
      rw [l2']; rfl
  · have := l4.1 ⟨h.1, h.2, by simp⟩
    rw [e] at this; cases this
  · by_cases hp : 0 ≤ p ∧ p < (nP b : Int)
    · exact hp
    · exact absurd (l4.2 hp) h

/-- The places that the water of a place reaches. -/
noncomputable def RS (b : t_api_Basin.den) (p : Int) : List Int := (rch b p).getD []
theorem rch_is (b : t_api_Basin.den) (hn : nP b ≤ 16) (p : Int) : rch b p = some (RS b p) ∧ reach_r b p = some (RS b p) ∧ Good (nP b) (RS b p) ∧ ((0 ≤ p ∧ p < (nP b : Int)) ↔ RS b p ≠ []) := by
  obtain ⟨l, h1, h2, h3, h4⟩ := reach_ex b hn p
  have : RS b p = l := by unfold RS; rw [h1]; rfl
  rw [this]
  exact ⟨h1, h2, h3, h4⟩
end Go.Lift.S38
