import Derived.Test.YtiaemilmhbgdpaaPV01
set_option linter.all false
/- The statement ExactOrders. -/
set_option linter.unusedSimpArgs false
set_option linter.unusedVariables false
namespace Go.Lift.S01
open Go Go.Lift Go.Lift.Ar

/-- The denominator of a division. -/
def denOf (s : Int) : Int := if (1 : Int) > s then 1 else s

theorem all_zero {l : List Int} (hw : AllW l) (hz : isum l = 0) (i : Nat) : l.getD i 0 = 0 := by
  by_cases hi : i < l.length
  · have hm := getD_mem l i 0 hi
    have h1 := (hw _ hm).1
    obtain ⟨a, b, e⟩ := List.append_of_mem hm
    have hz2 := hz
    rw [e, isum_append] at hz2
    have h3 := isum_nonneg (l := a) (fun y hy => (hw y (by rw [e]; simp [hy])).1)
    have h4 := isum_nonneg (l := b) (fun y hy => (hw y (by rw [e]; simp [hy])).1)
    simp only [isum] at hz2
    omega
  · exact getD_far2 _ _ _ (by omega)

/-- A division that exists. -/
theorem share_div {total : Int} {l : List Int} (hv : Valid total l) : ∃ x, share total l = some (x, true) ∧ x.length = l.length ∧ Div total l x (denOf (isum l)) (fun i => total * l.getD i 0 / denOf (isum l)) (fun i => total * l.getD i 0 % denOf (isum l)) := by
  have hv' := hv
  obtain ⟨h64, hw, hM, ht0, ht1⟩ := hv
  have hW := isum_W hw
  rcases Int.lt_or_le 0 (isum l) with hpos | hz
  · obtain ⟨d, x, left, s1, s2, s3, s4, s5, s6, s7⟩ := share_ok total l hw h64 hM ht0 ht1 hpos (sortStable_is _ _ (by simp [rs]) (by omega))
    have e : denOf (isum l) = isum l := if_neg (by omega)
    rw [e]
    exact ⟨x, s5, s6, div_of hv' hpos s1 s2 s4 s7⟩
  · have hz' : isum l = 0 := by omega
    have ht : total = 0 := by omega
    subst ht
    have e : denOf (isum l) = 1 := if_pos (by omega)
    have hl0 := all_zero hw hz'
    have z0 : ∀ i, (0 : Int) * l.getD i 0 / 1 = 0 := fun i => by rw [Int.zero_mul]; rfl
    have z1 : ∀ i, (0 : Int) * l.getD i 0 % 1 = 0 := fun i => by rw [Int.zero_mul]; rfl
    rw [e]
    refine ⟨_, share_zero l hw h64 hz', by simp, ⟨fun i hi => ?_, fun i hi => ?_, fun i hi => ?_, fun i hi => ?_, fun i hi => ?_, fun u v hu hv h1 h2 => ?_⟩⟩
    · show _ = some ((0 : Int) * l.getD i 0 / 1, (0 : Int) * l.getD i 0 % 1, true)
      rw [hl0 i, scale_eq, if_pos ⟨by omega, by omega, by omega, by omega, by omega, by omega, by decide⟩]
    · show _ = (0 : Int) * l.getD i 0 / 1 ∨ _
      rw [z0, getD_replicate _ _ _ _ hi]; exact .inl rfl
    · rw [getD_replicate _ _ _ _ hi, hl0 i]; omega
    · show 0 ≤ (0 : Int) * l.getD i 0 / 1 ∧ (0 : Int) * l.getD i 0 / 1 ≤ _
      rw [z0]; omega
    · show 0 ≤ (0 : Int) * l.getD i 0 % 1
      rw [z1]; omega
    · rw [getD_replicate _ _ _ _ hu] at h1
      have h1' : (0 : Int) = (0 : Int) * l.getD u 0 / 1 + 1 := h1
      rw [z0] at h1'; omega

theorem same_is (a b : List Int) (ha : a.length ≤ 9223372036854775807) : same a b = some (decide (a = b)) := by
  unfold same same_body
  by_cases h : a.length = b.length
  · have : ((a.length : Int) != (b.length : Int)) = false := by rw [h]; exact bne_self_eq_false _
    rw [this, cond_false]
    have key : ∀ (k i : Nat), a.length < i + k → i ≤ a.length → same_loop4 k a b (i : Int) = some (if a.drop i = b.drop i then .inl () else .inr false) := by
      intro k
      induction k with
      | zero => intro i h1 h2; omega
      | succ k ih =>
        intro i h1 h2
        unfold same_loop4 same_loop4_step
        rw [Int.toNat_natCast]
        by_cases hi : i < a.length
        · rw [drop_cons a i 0 hi, drop_cons b i 0 (by omega), inb _ _ hi, inb _ _ (show i < b.length by omega), decide_eq_true (show (i : Int) < (a.length : Int) by omega)]
          simp only [cond_true]
          generalize List.getD a i 0 = x at *
          generalize List.getD b i 0 = y at *
          by_cases hxy : x = y
          · subst hxy
            rw [bne_self_eq_false, cond_false, wi_id _ (by omega) (by omega)]
            have g := ih (i + 1) (by omega) (by omega)
            have g' : same_loop4 k a b ((i : Int) + 1) = _ := g
            rw [g']
            by_cases hd : a.drop (i + 1) = b.drop (i + 1)
            · rw [if_pos hd, if_pos (by rw [hd])]
            · rw [if_neg hd, if_neg (fun e => hd (List.cons.inj e).2)]
          · have : (x != y) = true := by simpa using hxy
            rw [this, cond_true, if_neg (fun e => hxy (List.cons.inj e).1)]
        · rw [decide_eq_false (show ¬ (i : Int) < (a.length : Int) by omega), cond_false, List.drop_eq_nil_of_le (by omega), List.drop_eq_nil_of_le (by omega), if_pos rfl]
    have g := key FUEL 0 (fuel_gt _ ha) (by omega)
    have g' : same_loop4 FUEL a b 0 = _ := g
    rw [g', List.drop_zero, List.drop_zero]
    by_cases hab : a = b
    · rw [if_pos hab, decide_eq_true hab]; rfl
    · rw [if_neg hab, decide_eq_false hab]; rfl
  · have : ((a.length : Int) != (b.length : Int)) = true := by simp; omega
    rw [this, cond_true, decide_eq_false (fun e => h (by rw [e]))]

theorem denOf_pos (s : Int) : 0 < denOf s := by unfold denOf; split <;> omega

theorem orders_lo {T den a b : Int} (hT : 0 ≤ T) (hd : 0 < den) (hab : b < a) : T * b / den ≤ T * a / den ∧ (T * b / den = T * a / den → 0 < T * b % den → T * b % den < T * a % den) := by
  have hm : T * b ≤ T * a := Int.mul_le_mul_of_nonneg_left (by omega) hT
  refine ⟨Int.ediv_le_ediv hd hm, fun e h0 => ?_⟩
  have e1 := Int.mul_ediv_add_emod (T * a) den
  have e2 := Int.mul_ediv_add_emod (T * b) den
  rw [e] at e2
  rcases Int.lt_or_le 0 T with hp | hz
  · have : T * b < T * a := Int.mul_lt_mul_of_pos_left hab hp
    omega
  · have : T = 0 := by omega
    subst this
    rw [Int.zero_mul, Int.zero_emod] at h0; omega

theorem orders_rest {T U S w : Int} (hS : 0 < S) (h : T + U = S) (hx : ∀ (x u : Int), True) : let m := w - T * w / S - U * w / S; (m = 0 ∧ T * w % S = 0 ∧ U * w % S = 0) ∨ m = 1 := by
  intro m
  have e1 := Int.mul_ediv_add_emod (T * w) S
  have e2 := Int.mul_ediv_add_emod (U * w) S
  have b1 := Int.emod_nonneg (T * w) (show S ≠ 0 by omega)
  have b2 := Int.emod_lt_of_pos (T * w) hS
  have b3 := Int.emod_nonneg (U * w) (show S ≠ 0 by omega)
  have b4 := Int.emod_lt_of_pos (U * w) hS
  have e3 : T * w + U * w = S * w := by rw [← h, Int.add_mul]
  have e4 : S * m = T * w % S + U * w % S := by
    show S * (w - T * w / S - U * w / S) = _
    rw [Int.mul_sub, Int.mul_sub]; omega
  have h0 : 0 ≤ m := by
    rcases Int.lt_or_le m 0 with g | g
    · have := Int.mul_le_mul_of_nonneg_left (show m ≤ -1 by omega) (show 0 ≤ S by omega); omega
    · exact g
  have h1 : m ≤ 1 := by
    rcases Int.lt_or_le 1 m with g | g
    · have := Int.mul_le_mul_of_nonneg_left (show 2 ≤ m by omega) (show 0 ≤ S by omega); omega
    · exact g
  rcases (show m = 0 ∨ m = 1 by omega) with g | g
  · rw [g, Int.mul_zero] at e4
    exact .inl ⟨g, by omega, by omega⟩
  · exact .inr g

theorem orders_loop18_is (l x z u : List Int) (head : Bool) (i : Nat) (hi : i < l.length) (hx : x.length = l.length) (hl : l.length ≤ 64) (sm : Option Bool) (h : ∀ k, k < l.length → l.getD k 0 < l.getD i 0 → x.getD k 0 ≤ x.getD i 0) :
    ∀ (n k : Nat), l.length < k + n → k ≤ l.length → orders_loop18 same whole share sm n l head x z u (i : Int) (k : Int) = some (.inl (l, head, x, z, u, (i : Int))) := by
  intro n
  induction n with
  | zero => intro k h1 h2; omega
  | succ n ih =>
    intro k h1 h2
    unfold orders_loop18 orders_loop18_step
    rw [Int.toNat_natCast, Int.toNat_natCast]
    by_cases hk : k < l.length
    · have hh := h k hk
      rw [inb _ _ hi, inb _ _ hk, hx, inb _ _ hi, inb _ _ hk, decide_eq_true (show (k : Int) < (l.length : Int) by omega)]
      simp only [cond_true]
      generalize List.getD l i 0 = a at *
      generalize List.getD l k 0 = b at *
      generalize List.getD x i 0 = c at *
      generalize List.getD x k 0 = d at *
      have g := ih (k + 1) (by omega) (by omega)
      rw [wi_id ((k : Int) + 1) (by omega) (by omega)]
      by_cases hab : a > b
      · rw [decide_eq_true hab, decide_eq_false (show ¬ c < d by have := hh hab; omega)]
        simp only [cond_true, Option.bind_some, cond_false]
        exact g
      · rw [decide_eq_false hab]
        simp only [Option.bind_some, cond_false]
        exact g
    · rw [decide_eq_false (show ¬ (k : Int) < (l.length : Int) by omega), cond_false]

theorem orders_loop12_is (l x z u : List Int) (head : Bool) (hx : x.length = l.length) (hz : z.length = l.length) (hu : u.length = l.length) (hl : l.length ≤ 64) (sm : Option Bool) (h : ∀ i k, i < l.length → k < l.length → l.getD k 0 < l.getD i 0 → x.getD k 0 ≤ x.getD i 0)
    (h0 : ∀ i, i < l.length → z.getD i 0 = 0) (hr : ∀ i, i < l.length → -1 ≤ l.getD i 0 - x.getD i 0 - u.getD i 0 ∧ l.getD i 0 - x.getD i 0 - u.getD i 0 ≤ 1)
    (hb : ∀ i, i < l.length → 0 ≤ l.getD i 0 ∧ l.getD i 0 ≤ 1125899906842624 ∧ 0 ≤ x.getD i 0 ∧ x.getD i 0 ≤ 1125899906842624) :
    ∀ (n i : Nat), l.length < i + n → i ≤ l.length → orders_loop12 same whole share sm n l head x z u (i : Int) = some (.inl head) := by
  intro n
  induction n with
  | zero => intro k h1 h2; omega
  | succ n ih =>
    intro i h1 h2
    unfold orders_loop12 orders_loop12_step
    rw [Int.toNat_natCast]
    by_cases hi : i < l.length
    · have g18 := orders_loop18_is l x z u head i hi hx hl sm (fun k hk => h i k hi hk) FUEL 0 (fuel_gt _ (by omega)) (by omega)
      have g18' : orders_loop18 same whole share sm FUEL l head x z u (i : Int) 0 = _ := g18
      rw [hx, hz, hu, inb _ _ hi, h0 i hi, g18', decide_eq_true (show (i : Int) < (l.length : Int) by omega)]
      have r1 := hr i hi
      have b1 := hb i hi
      generalize List.getD l i 0 = a at *
      generalize List.getD x i 0 = c at *
      generalize List.getD u i 0 = d at *
      rw [wi_id (a - c) (by omega) (by omega), wi_id (a - c - d) (by omega) (by omega), decide_eq_false (show ¬ a - c - d < -1 by omega), decide_eq_false (show ¬ a - c - d > 1 by omega)]
      simp only [cond_true, bne_self_eq_false, cond_false, Option.bind_some, Sum.elim]
      rw [wi_id ((i : Int) + 1) (by omega) (by omega)]
      exact ih (i + 1) (by omega) (by omega)
    · rw [decide_eq_false (show ¬ (i : Int) < (l.length : Int) by omega), cond_false]

theorem orders_true (total : Int) (l : List Int) : orders total l = some true := by
  unfold orders orders_body
  rw [small_true]
  simp only [Option.bind_some]
  rcases whole_is l with ⟨g, h64, hw, hM⟩ | ⟨g, _⟩
  · rw [g]
    simp only [Option.bind_some, Bool.not_true, cond_false, sc_or, Bool.false_or]
    by_cases hT : 0 ≤ total ∧ total ≤ isum l
    · rw [decide_eq_false (show ¬ total < 0 by omega), decide_eq_false (show ¬ total > isum l by omega)]
      simp only [Bool.or_self, Bool.false_or, Bool.or_false, cond_false]
      have hW := isum_W hw
      have hS := denOf_pos (isum l)
      obtain ⟨x, x1, x2, x3⟩ := share_div (total := total) (l := l) ⟨h64, hw, hM, hT.1, hT.2⟩
      obtain ⟨f, f1, f2, f3⟩ := share_div (total := isum l) (l := l) ⟨h64, hw, hM, hW.1, Int.le_refl _⟩
      obtain ⟨z, z1, z2, z3⟩ := share_div (total := 0) (l := l) ⟨h64, hw, hM, Int.le_refl _, hW.1⟩
      obtain ⟨u, u1, u2, u3⟩ := share_div (total := isum l - total) (l := l) ⟨h64, hw, hM, by omega, by omega⟩
      rw [x1, f1, z1]
      simp only [Option.bind_some]
      rw [wi_id (isum l - total) (by omega) (by omega), u1]
      have hfl : f = l := ext_getD f2 fun i hi => by
        have hi' : i < l.length := by omega
        have p := f3.part i hi'
        rcases Int.lt_or_le 0 (isum l) with hp | hz
        · have e : denOf (isum l) = isum l := if_neg (by omega)
          rw [e] at p
          have e1 : isum l * l.getD i 0 / isum l = l.getD i 0 := Int.mul_ediv_cancel_left _ (by omega)
          have e2 : isum l * l.getD i 0 % isum l = 0 := Int.mul_emod_right _ _
          rw [e1, e2] at p
          omega
        · have hz' : isum l = 0 := by omega
          have := all_zero hw hz' i
          rw [this, Int.mul_zero, Int.zero_ediv, Int.zero_emod] at p
          rw [this]; omega
      subst hfl
      simp only [Option.bind_some, Bool.not_true, cond_false, sc_or, same_is f f (by omega), decide_true, x2, z2, u2, bne_self_eq_false]
      have hz0 : ∀ i, i < f.length → z.getD i 0 = 0 := fun i hi => by
        have p := z3.part i hi
        rw [Int.zero_mul, Int.zero_ediv, Int.zero_emod] at p; omega
      have g := orders_loop12_is f x z u true x2 z2 u2 h64 (some true) (fun i k hi hk hlt => by
          have p1 := x3.part i hi
          have p2 := x3.part k hk
          have lo := orders_lo hT.1 hS hlt
          have cr := x3.cross k i hk hi
          rcases Int.lt_or_le (x.getD i 0) (x.getD k 0) with hh | hh
          · exfalso
            have q1 : x.getD i 0 = total * f.getD i 0 / denOf (isum f) := by omega
            have q2 : x.getD k 0 = total * f.getD k 0 / denOf (isum f) + 1 := by omega
            have := lo.2 (by omega) (by omega)
            rcases cr q2 q1 with c | c <;> omega
          · exact hh) hz0 (fun i hi => by
          have p1 := x3.part i hi
          have p2 := u3.part i hi
          rcases Int.lt_or_le 0 (isum f) with hp | hz
          · have e : denOf (isum f) = isum f := if_neg (by omega)
            rw [e] at p1 p2
            have r := orders_rest (w := f.getD i 0) hp (show total + (isum f - total) = isum f by omega) (fun _ _ => trivial)
            simp only at r
            omega
          · have hz' : isum f = 0 := by omega
            have := all_zero hw hz' i
            rw [this, Int.mul_zero, Int.zero_ediv, Int.zero_emod] at p1
            rw [this, Int.mul_zero, Int.zero_ediv, Int.zero_emod] at p2
            rw [this]; omega) (fun i hi => by
          have a1 := hw _ (getD_mem f i 0 hi)
          have a2 := x3.part i hi
          have a3 := x3.q0 i hi
          have a4 := x3.le i hi
          omega) FUEL 0 (fuel_gt _ (by omega)) (by omega)
      have g' : orders_loop12 same whole share (some true) FUEL f true x z u 0 = _ := g
      rw [g']; rfl
    · have : (decide (total < 0) || decide (total > isum l)) = true := by simp only [Bool.or_eq_true, decide_eq_true_eq]; omega
      rw [this]; rfl
  · rw [g]; rfl
end Go.Lift.S01
