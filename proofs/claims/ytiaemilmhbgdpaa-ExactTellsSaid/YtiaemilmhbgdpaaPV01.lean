import Derived.Test.YtiaemilmhbgdpaaPJ01
import Derived.Test.YtiaemilmhbgdpaaPN01s
set_option linter.all false
/- The statement ExactShares. -/
set_option linter.unusedSimpArgs false
set_option linter.unusedVariables false
namespace Go.Lift.S01
open Go Go.Lift Go.Lift.Ar

theorem isum_perm {a b : List Int} (h : a.Perm b) : isum a = isum b := by
  induction h with
  | nil => rfl
  | cons x _ ih => simp only [isum, ih]
  | swap x y l => simp only [isum]; omega
  | trans _ _ h1 h2 => exact h1.trans h2

theorem map_wt (R : List Int) : (idn R.length).map (wt R) = R := by
  refine ext_getD (by simp [idn]) fun i hi => ?_
  have hi' : i < R.length := by simpa [idn] using hi
  unfold idn
  rw [List.map_map, getD_map_range _ _ _ _ hi']
  rfl

theorem isum_le_len {l : List Int} {s : Int} (h : ∀ x, x ∈ l → x ≤ s) : isum l ≤ (l.length : Int) * s := by
  induction l with
  | nil => simp [isum]
  | cons x l ih =>
    have := h x (by simp)
    have := ih (fun y hy => h y (by simp [hy]))
    simp only [isum, List.length_cons]
    rw [Int.natCast_add, Int.add_mul]; omega

theorem isum_zero {l : List Int} (h : ∀ x, x ∈ l → x = 0) : isum l = 0 := by
  induction l with
  | nil => rfl
  | cons x l ih => simp only [isum, h x (by simp), ih (fun y hy => h y (by simp [hy]))]; rfl

theorem isum_ones {l : List Int} (h : ∀ x, x ∈ l → x = 1) : isum l = (l.length : Int) := by
  induction l with
  | nil => rfl
  | cons x l ih => simp only [isum, h x (by simp), ih (fun y hy => h y (by simp [hy])), List.length_cons]; omega

/-- Those that come first have a remainder. -/
theorem first_pos {R d : List Int} {n left : Nat} {T : Int} (hS : Srt R d n) (hn : R.length = n) (hl : left ≤ n) (hT : 0 < T) (hR : ∀ x, x ∈ R → 0 ≤ x ∧ x < T) (hsum : (left : Int) * T = isum R) (s : Nat) (hs : s < left) : 0 < wt R (d.getD s 0) := by
  obtain ⟨h1, h2, h3⟩ := hS
  have hw : ∀ v, v ∈ d → 0 ≤ wt R v ∧ wt R v < T := fun v hv => by
    have hb := mem_idn.1 (h2.mem_iff.1 hv)
    exact hR _ (getD_mem R v.toNat 0 (by omega))
  rcases Int.lt_or_le 0 (wt R (d.getD s 0)) with h | h
  · exact h
  · exfalso
    have hz : ∀ q, s ≤ q → q < n → wt R (d.getD q 0) = 0 := fun q hq1 hq2 => by
      have hq0 := (hw _ (getD_mem d q 0 (by omega))).1
      have hs0 := (hw _ (getD_mem d s 0 (by omega))).1
      by_cases e : s = q
      · subst e; omega
      · have := h3 s q (by omega) hq2
        unfold bef at this; omega
    have e1 : isum R = isum (d.map (wt R)) := by
      have h4 := isum_perm (h2.map (wt R))
      rw [h4, ← hn, map_wt]
    have e2 : isum (d.map (wt R)) = isum ((d.take s).map (wt R)) + isum ((d.drop s).map (wt R)) := by
      rw [← isum_append, ← List.map_append, List.take_append_drop]
    have e3 : isum ((d.drop s).map (wt R)) = 0 := isum_zero fun x hx => by
      obtain ⟨v, hv, rfl⟩ := List.mem_map.1 hx
      obtain ⟨q, hq, rfl⟩ := List.getElem_of_mem hv
      rw [List.getElem_drop]
      rw [List.length_drop] at hq
      have := hz (s + q) (by omega) (by omega)
      rw [List.getD_eq_getElem?_getD, List.getElem?_eq_getElem (by omega)] at this
      exact this
    have e4 := isum_le_len (l := (d.take s).map (wt R)) (s := T - 1) (fun x hx => by
      obtain ⟨v, hv, rfl⟩ := List.mem_map.1 hx
      have := (hw v (List.mem_of_mem_take hv)).2; omega)
    have hlen : ((d.take s).map (wt R)).length = s := by rw [List.length_map, List.length_take]; omega
    rw [hlen] at e4
    have e5 : (s : Int) * (T - 1) ≤ ((left : Int) - 1) * (T - 1) := Int.mul_le_mul_of_nonneg_right (by omega) (by omega)
    have e6 : ((left : Int) - 1) * (T - 1) = (left : Int) * T - left - T + 1 := by grind
    omega

theorem count_take {d : List Int} {n left : Nat} (hp : d.Perm (idn n)) (hl : left ≤ n) : isum ((List.range n).map fun i : Nat => if (i : Int) ∈ d.take left then (1 : Int) else 0) = (left : Int) := by
  have hdl : d.length = n := by rw [hp.length_eq, idn_length]
  have hnd : d.Nodup := hp.nodup_iff.2 (idn_nodup _)
  have e0 : (List.range n).map (fun i : Nat => if (i : Int) ∈ d.take left then (1 : Int) else 0) = (idn n).map fun v => if v ∈ d.take left then (1 : Int) else 0 := by
    unfold idn; rw [List.map_map]; rfl
  rw [e0, ← isum_perm (hp.map _)]
  have e2 : ∀ f : Int → Int, isum (d.map f) = isum ((d.take left).map f) + isum ((d.drop left).map f) := fun f => by
    rw [← isum_append, ← List.map_append, List.take_append_drop]
  rw [e2, isum_ones (l := (d.take left).map _) (fun x hx => by
    obtain ⟨v, hv, rfl⟩ := List.mem_map.1 hx
    rw [if_pos hv]), isum_zero (l := (d.drop left).map _) (fun x hx => by
    obtain ⟨v, hv, rfl⟩ := List.mem_map.1 hx
    have hdis : v ∉ d.take left := fun h => by
      have := hnd
      rw [← List.take_append_drop left d, List.nodup_append] at this
      exact this.2.2 v h v hv rfl
    rw [if_neg hdis]), List.length_map, List.length_take]
  omega


def Valid (total : Int) (l : List Int) : Prop := l.length ≤ 64 ∧ AllW l ∧ isum l ≤ 1125899906842624 ∧ 0 ≤ total ∧ total ≤ isum l

theorem share_bad (total : Int) (l : List Int) (hl : l.length ≤ 9223372036854775807) (h : ¬ Valid total l) : share total l = some ([], false) := by
  unfold share share_body
  by_cases h64 : (l.length : Int) > 64
  · rw [decide_eq_true h64]; rfl
  · rw [decide_eq_false h64, cond_false, contains_eq l hl]
    simp only [Option.bind_some]
    cases ha : (l.any fun x => !okW x)
    · have hw : AllW l := fun x hx => by
        have : (!okW x) = false := by
          cases hh : !okW x
          · rfl
          · have : (l.any fun x => !okW x) = true := List.any_eq_true.2 ⟨x, hx, hh⟩
            rw [ha] at this; cases this
        unfold okW at this
        simp only [Bool.not_eq_false', Bool.and_eq_true, decide_eq_true_eq] at this
        exact this
      have hW := isum_W hw
      have l5 : share_loop5 scale containsFunc sortStable FUEL total l 0 l (l.length : Int) 0 = _ := share_loop5_is total l hw (by omega) FUEL 0 0 (fuel_gt _ hl) (by omega) (by omega) (by rw [List.drop_zero]; omega)
      simp only [cond_false, l5, Option.bind_some, List.drop_zero, Int.zero_add, sc_or]
      have g1 : (decide (isum l > 1125899906842624) || decide (total < 0) || decide (total > isum l)) = true := by
        simp only [Bool.or_eq_true, decide_eq_true_eq]
        by_cases a : isum l > 1125899906842624
        · exact .inl (.inl a)
        · by_cases b : total < 0
          · exact .inl (.inr b)
          · right
            rcases Int.lt_or_le (isum l) total with c | c
            · exact c
            · exact absurd ⟨by omega, hw, by omega, by omega, c⟩ h
      rw [g1]; rfl
    · rfl

theorem whole_loop_is (l : List Int) (hl : l.length ≤ 64) : ∀ (k i : Nat) (w : Int), l.length < i + k → i ≤ l.length → 0 ≤ w → w ≤ 1125899906842624 →
    whole_loop5 k l w (i : Int) = some (.inl (w + isum (l.drop i))) ∧ (∀ x, x ∈ l.drop i → 0 ≤ x) ∧ w + isum (l.drop i) ≤ 1125899906842624 ∨ whole_loop5 k l w (i : Int) = some (.inr (0, false)) ∧ ¬ ((∀ x, x ∈ l.drop i → 0 ≤ x) ∧ w + isum (l.drop i) ≤ 1125899906842624) := by
  intro k
  induction k with
  | zero => intro i w h hi; omega
  | succ k ih =>
    intro i w h hi0 hw0 hw1
    unfold whole_loop5 whole_loop5_step
    rw [Int.toNat_natCast]
    by_cases hi : i < l.length
    · rw [drop_cons l i 0 hi, inb _ _ hi]
      generalize List.getD l i 0 = x at *
      have hlt : decide ((i : Int) < (l.length : Int)) = true := decide_eq_true (by omega)
      rw [hlt, wi_id (1125899906842624 - w) (by omega) (by omega)]
      simp only [cond_true, sc_or, Option.bind_some, isum]
      by_cases hx : x < 0 ∨ x > 1125899906842624 - w
      · have : (decide (x < 0) || decide (x > 1125899906842624 - w)) = true := by simpa using hx
        rw [this, cond_true]
        refine .inr ⟨rfl, fun hh => ?_⟩
        have h1 := hh.1 x (by simp)
        have h2 := isum_nonneg (l := l.drop (i + 1)) (fun y hy => hh.1 y (by simp [hy]))
        have := hh.2; omega
      · have : (decide (x < 0) || decide (x > 1125899906842624 - w)) = false := by simp; omega
        rw [this, cond_false, wi_id (w + x) (by omega) (by omega), wi_id ((i : Int) + 1) (by omega) (by omega)]
        rcases ih (i + 1) (w + x) (by omega) (by omega) (by omega) (by omega) with ⟨g1, g2, g3⟩ | ⟨g1, g2⟩
        · refine .inl ⟨by rw [← Int.add_assoc]; exact g1, fun y hy => ?_, by omega⟩
          rcases List.mem_cons.1 hy with rfl | hy
          · omega
          · exact g2 y hy
        · exact .inr ⟨g1, fun hh => g2 ⟨fun y hy => hh.1 y (by simp [hy]), by have := hh.2; omega⟩⟩
    · have hlt : decide ((i : Int) < (l.length : Int)) = false := decide_eq_false (by omega)
      rw [(List.drop_eq_nil_of_le (by omega) : l.drop i = []), hlt, cond_false]
      exact .inl ⟨by simp [isum], fun x hx => (by cases hx), by simp [isum]; omega⟩

theorem Fitw {l : List Int} (h0 : ∀ x, x ∈ l → 0 ≤ x) (h1 : isum l ≤ 1125899906842624) : AllW l := fun x hx => by
  refine ⟨h0 x hx, ?_⟩
  obtain ⟨a, b, rfl⟩ := List.append_of_mem hx
  rw [isum_append] at h1
  have h3 := isum_nonneg (l := a) (fun y hy => h0 y (by simp [hy]))
  have h4 := isum_nonneg (l := b) (fun y hy => h0 y (by simp [hy]))
  simp only [isum] at h1
  omega

theorem whole_is (l : List Int) : (whole l = some (isum l, true) ∧ l.length ≤ 64 ∧ AllW l ∧ isum l ≤ 1125899906842624) ∨ (whole l = some (0, false) ∧ ¬ (l.length ≤ 64 ∧ AllW l ∧ isum l ≤ 1125899906842624)) := by
  unfold whole whole_body
  by_cases h64 : (l.length : Int) > 64
  · rw [decide_eq_true h64, cond_true]
    exact .inr ⟨rfl, fun hh => by omega⟩
  · rw [decide_eq_false h64, cond_false]
    rcases whole_loop_is l (by omega) FUEL 0 0 (fuel_gt _ (by omega)) (by omega) (by omega) (by omega) with ⟨g1, g2, g3⟩ | ⟨g1, g2⟩
    · rw [List.drop_zero, Int.zero_add] at *
      have g1' : whole_loop5 FUEL l 0 0 = _ := g1
      rw [g1']
      exact .inl ⟨rfl, by omega, Fitw g2 g3, g3⟩
    · rw [List.drop_zero, Int.zero_add] at *
      have g1' : whole_loop5 FUEL l 0 0 = _ := g1
      rw [g1']
      exact .inr ⟨rfl, fun hh => g2 ⟨fun x hx => (hh.2.1 x hx).1, hh.2.2⟩⟩

/-- What the statement knows of a division. -/
structure Div (total : Int) (l x : List Int) (den : Int) (Q Rm : Nat → Int) : Prop where
  sc : ∀ i, i < l.length → scale total (l.getD i 0) den = some (Q i, Rm i, true)
  part : ∀ i, i < l.length → x.getD i 0 = Q i ∨ (x.getD i 0 = Q i + 1 ∧ 0 < Rm i)
  le : ∀ i, i < l.length → x.getD i 0 ≤ l.getD i 0
  q0 : ∀ i, i < l.length → 0 ≤ Q i ∧ Q i ≤ 1125899906842624
  r0 : ∀ i, i < l.length → 0 ≤ Rm i
  cross : ∀ u v, u < l.length → v < l.length → x.getD u 0 = Q u + 1 → x.getD v 0 = Q v → Rm v < Rm u ∨ (Rm u = Rm v ∧ u < v)

theorem shares_loop_is {total : Int} {l x : List Int} {w den : Int} {Q Rm : Nat → Int} (hD : Div total l x den Q Rm) (hden : (if (1 : Int) > w then 1 else w) = den) (hx : x.length = l.length) (hl : l.length ≤ 64) (sm : Option Bool) :
    ∀ (k i : Nat) (s worst last best first : Int), l.length < i + k → i ≤ l.length → 0 ≤ s → s ≤ (i : Int) * 1125899906842625 → (worst = -1 ∨ ∃ u : Nat, last = (u : Int) ∧ u < l.length ∧ x.getD u 0 = Q u + 1 ∧ Rm u = worst) → (best = -1 ∨ ∃ v : Nat, first = (v : Int) ∧ v < l.length ∧ x.getD v 0 = Q v ∧ Rm v = best) →
      ∃ worst' last' best' first', shares_loop16 scale whole share sm k total l true w x s worst last best first (i : Int) = some (.inl (total, true, s + isum (x.drop i), worst', last', best', first')) ∧ (worst' = -1 ∨ ∃ u : Nat, last' = (u : Int) ∧ u < l.length ∧ x.getD u 0 = Q u + 1 ∧ Rm u = worst') ∧ (best' = -1 ∨ ∃ v : Nat, first' = (v : Int) ∧ v < l.length ∧ x.getD v 0 = Q v ∧ Rm v = best') := by
  intro k
  induction k with
  | zero => intro i s a b c d h hi; omega
  | succ k ih =>
    intro i s worst last best first h hi0 hs0 hs1 hW hB
    unfold shares_loop16 shares_loop16_step
    rw [Int.toNat_natCast, hden]
    by_cases hi : i < l.length
    · have hlt : decide ((i : Int) < (l.length : Int)) = true := decide_eq_true (by omega)
      have hsc := hD.sc i hi
      have hle := hD.le i hi
      have hq := hD.q0 i hi
      have hr := hD.r0 i hi
      have hp := hD.part i hi
      have hdx := drop_cons x i 0 (by omega)
      have e1 : wi (Q i + 1) = Q i + 1 := wi_id _ (by clear hW hB; omega) (by clear hW hB; omega)
      have e2 : wi (s + x.getD i 0) = s + x.getD i 0 := wi_id _ (by clear hW hB; omega) (by clear hW hB; omega)
      have e3 : wi ((i : Int) + 1) = ((i + 1 : Nat) : Int) := wi_id _ (by clear hW hB; omega) (by clear hW hB; omega)
      have a1 : l.length < i + 1 + k := by clear hW hB; omega
      have a2 : 0 ≤ s + x.getD i 0 := by clear hW hB; omega
      have a3 : s + x.getD i 0 ≤ ((i + 1 : Nat) : Int) * 1125899906842625 := by clear hW hB; omega
      have nx := fun a b c d hW hB => ih (i + 1) (s + x.getD i 0) a b c d a1 hi a2 a3 hW hB
      rw [hdx]
      simp only [isum, ← Int.add_assoc]
      rw [inb i x.length (by omega), inb i l.length hi, hlt, hsc]
      simp only [cond_true, Option.bind_some]
      rw [e1, e2, e3]
      have c3 : decide (x.getD i 0 > l.getD i 0) = false := decide_eq_false (by omega)
      rcases hp with hp | ⟨hp, hpos⟩
      · have c1 : (x.getD i 0 != Q i) = false := by rw [hp]; exact bne_self_eq_false _
        have c4 : (x.getD i 0 == Q i + 1) = false := by rw [hp]; simp; omega
        have c6 : (x.getD i 0 == Q i) = true := by rw [hp]; simp
        rw [c1, c3, c4, c6]
        simp only [cond_false, cond_true, Option.bind_some]
        cases hb : decide (Rm i > best)
        · simp only [cond_false]
          exact nx _ _ _ _ hW hB
        · simp only [cond_true]
          exact nx _ _ _ _ hW (.inr ⟨i, rfl, hi, hp, rfl⟩)
      · have c1 : (x.getD i 0 != Q i) = true := by rw [hp]; simp; omega
        have c2 : (x.getD i 0 != Q i + 1) = false := by rw [hp]; exact bne_self_eq_false _
        have c4 : (x.getD i 0 == Q i + 1) = true := by rw [hp]; simp
        have c5 : (Rm i == 0) = false := by simp; omega
        have c6 : (x.getD i 0 == Q i) = false := by rw [hp]; simp; omega
        rw [c1, c2, c3, c4, c5, c6]
        simp only [cond_false, cond_true, Option.bind_some, sc_or]
        cases hb : (decide (worst < 0) || decide (Rm i ≤ worst))
        · simp only [cond_false, Option.bind_some]
          exact nx _ _ _ _ hW hB
        · simp only [cond_true, cond_false, Option.bind_some]
          exact nx _ _ _ _ (.inr ⟨i, rfl, hi, hp, rfl⟩) hB
    · have hlt : decide ((i : Int) < (l.length : Int)) = false := decide_eq_false (by omega)
      rw [hlt, cond_false, (List.drop_eq_nil_of_le (by omega) : x.drop i = [])]
      exact ⟨worst, last, best, first, by simp [isum], hW, hB⟩

theorem shares_end {total : Int} {l x : List Int} {w den : Int} {Q Rm : Nat → Int} (hD : Div total l x den Q Rm) (hden : (if (1 : Int) > w then 1 else w) = den) (hx : x.length = l.length) (hl : l.length ≤ 64) (hsum : isum x = total) (sm : Option Bool) :
    (Option.bind (shares_loop16 scale whole share sm FUEL total l true w x 0 (-1) 0 (-1) 0 0) fun r66 => Sum.elim (fun (r67 : Int × Bool × Int × Int × Int × Int × Int) => bif r67.snd.snd.fst != r67.fst then some false else Option.bind (bif r67.snd.fst then Option.bind (bif decide (r67.snd.snd.snd.fst < 0) then some true else some (decide (r67.snd.snd.snd.snd.snd.fst < 0))) fun r69 => Option.bind (bif r69 then some true else some (decide (r67.snd.snd.snd.fst > r67.snd.snd.snd.snd.snd.fst))) fun r70 => Option.bind (bif r70 then some true else some (r67.snd.snd.snd.fst == r67.snd.snd.snd.snd.snd.fst && decide (r67.snd.snd.snd.snd.fst < r67.snd.snd.snd.snd.snd.snd))) fun r71 => some r71 else some false) fun r68 => some r68) (fun (r73 : Bool) => some r73) r66) = some true := by
  obtain ⟨a, b, c, d, g, hW, hB⟩ := shares_loop_is hD hden hx hl sm FUEL 0 0 (-1) 0 (-1) 0 (fuel_gt _ (by omega)) (by omega) (by omega) (by omega) (.inl rfl) (.inl rfl)
  rw [List.drop_zero, Int.zero_add, hsum] at g
  have g' : shares_loop16 scale whole share sm FUEL total l true w x 0 (-1) 0 (-1) 0 0 = _ := g
  rw [g']
  simp only [Option.bind_some, Sum.elim, bne_self_eq_false, cond_false, cond_true, sc_or, sc_and, Option.some.injEq, Bool.or_eq_true, Bool.and_eq_true, beq_iff_eq, decide_eq_true_eq, true_and]
  rcases hW with hW | ⟨u, rfl, u1, u2, rfl⟩
  · left; left; left; omega
  · rcases hB with hB | ⟨v, rfl, v1, v2, rfl⟩
    · left; left; right; omega
    · rcases hD.cross u v u1 v1 u2 v2 with h | ⟨h1, h2⟩
      · left; right; exact h
      · right; exact ⟨h1, by omega⟩

theorem div_of {total : Int} {l x d : List Int} {left : Nat} (hv : Valid total l) (hpos : 0 < isum l) (hs : Srt (rs total (isum l) l) d l.length) (hl : left ≤ l.length) (hsum : (left : Int) * isum l = isum (rs total (isum l) l))
    (hx : ∀ p : Nat, x.getD p 0 = total * l.getD p 0 / isum l + if ((p : Int) ∈ d.take left) then 1 else 0) : Div total l x (isum l) (fun i => total * l.getD i 0 / isum l) (fun i => total * l.getD i 0 % isum l) := by
  obtain ⟨h64, hw, hM, ht0, ht1⟩ := hv
  have hRl : (rs total (isum l) l).length = l.length := by simp [rs]
  have hRb : ∀ y, y ∈ rs total (isum l) l → 0 ≤ y ∧ y < isum l := fun y hy => by
    obtain ⟨z, _, rfl⟩ := List.mem_map.1 hy
    exact ⟨Int.emod_nonneg _ (by omega), Int.emod_lt_of_pos _ hpos⟩
  have hli : ∀ i, i < l.length → 0 ≤ l.getD i 0 ∧ l.getD i 0 ≤ 1125899906842624 := fun i hi => hw _ (getD_mem l i 0 hi)
  have hdl := hs.1
  have wtr : ∀ i : Nat, wt (rs total (isum l) l) (i : Int) = total * l.getD i 0 % isum l := fun i => by
    unfold wt; rw [Int.toNat_natCast, rs_getD]
  -- the positions
  have pos : ∀ i : Nat, i < l.length → ∃ p, p < l.length ∧ d.getD p 0 = (i : Int) := fun i hi => by
    have : (i : Int) ∈ d := hs.2.1.mem_iff.2 (mem_idn.2 (by omega))
    obtain ⟨p, hp, e⟩ := List.getElem_of_mem this
    exact ⟨p, by omega, by rw [List.getD_eq_getElem?_getD, List.getElem?_eq_getElem hp]; exact e⟩
  have intake : ∀ i : Nat, (i : Int) ∈ d.take left → ∃ p, p < left ∧ d.getD p 0 = (i : Int) := fun i hi => by
    obtain ⟨p, hp, e⟩ := List.getElem_of_mem hi
    rw [List.length_take] at hp
    rw [List.getElem_take] at e
    exact ⟨p, by omega, by rw [List.getD_eq_getElem?_getD, List.getElem?_eq_getElem (by omega)]; exact e⟩
  have ofpos : ∀ p, p < left → d.getD p 0 ∈ d.take left := fun p hp => by
    have : (d.take left).getD p 0 = d.getD p 0 := by
      simp only [List.getD_eq_getElem?_getD, List.getElem?_take, if_pos hp]
    rw [← this]
    exact getD_mem _ _ _ (by rw [List.length_take]; omega)
  have hfirst : ∀ i : Nat, (i : Int) ∈ d.take left → 0 < total * l.getD i 0 % isum l := fun i hi => by
    obtain ⟨p, hp, e⟩ := intake i hi
    have := first_pos hs hRl hl hpos hRb hsum p hp
    rw [e, wtr] at this
    exact this
  have hq : ∀ i, i < l.length → 0 ≤ total * l.getD i 0 / isum l ∧ total * l.getD i 0 / isum l ≤ l.getD i 0 ∧ (0 < total * l.getD i 0 % isum l → total * l.getD i 0 / isum l + 1 ≤ l.getD i 0) := fun i hi => by
    have hpi := (hli i hi).1
    obtain ⟨a1, a2⟩ := q_le ht0 ht1 hpos hpi
    refine ⟨a1, a2, fun hr => ?_⟩
    have e := Int.mul_ediv_add_emod (total * l.getD i 0) (isum l)
    have h1 : total * l.getD i 0 ≤ isum l * l.getD i 0 := Int.mul_le_mul_of_nonneg_right ht1 hpi
    have h2 : isum l * (total * l.getD i 0 / isum l) < isum l * l.getD i 0 := by omega
    have := Int.lt_of_mul_lt_mul_left h2 (by omega)
    omega
  refine ⟨fun i hi => ?_, fun i hi => ?_, fun i hi => ?_, fun i hi => ?_, fun i hi => Int.emod_nonneg _ (by omega), fun u v hu hv h1 h2 => ?_⟩
  · have := hli i hi; have := hq i hi
    rw [scale_eq, if_pos ⟨ht0, by omega, by omega, by omega, by omega, hM, by omega⟩]
  · rw [hx]
    by_cases hi2 : (i : Int) ∈ d.take left
    · rw [if_pos hi2]; exact .inr ⟨rfl, hfirst i hi2⟩
    · rw [if_neg hi2]; exact .inl (by omega)
  · rw [hx]
    have := hq i hi
    by_cases hi2 : (i : Int) ∈ d.take left
    · rw [if_pos hi2]; exact this.2.2 (hfirst i hi2)
    · rw [if_neg hi2]; omega
  · have := hq i hi; have := hli i hi; exact ⟨by omega, by show total * l.getD i 0 / isum l ≤ _; omega⟩
  · have hum : (u : Int) ∈ d.take left := by
      by_cases h : (u : Int) ∈ d.take left
      · exact h
      · rw [hx, if_neg h] at h1; exfalso; omega
    have hvm : ¬ (v : Int) ∈ d.take left := fun h => by
      rw [hx, if_pos h] at h2; omega
    obtain ⟨p, hp, ep⟩ := intake u hum
    obtain ⟨q, hq', eq⟩ := pos v hv
    have hpq : p < q := by
      rcases Nat.lt_or_ge q left with h | h
      · exact absurd (eq ▸ ofpos q h) hvm
      · omega
    have hb := hs.2.2 p q hpq hq'
    rw [ep, eq] at hb
    unfold bef at hb
    rw [wtr, wtr] at hb
    rcases hb with h | ⟨h1, h2⟩
    · exact .inl h
    · exact .inr ⟨h1, by omega⟩

theorem isum_map_add (l : List Nat) (f g : Nat → Int) : isum (l.map fun x => f x + g x) = isum (l.map f) + isum (l.map g) := by
  induction l with
  | nil => rfl
  | cons x l ih => simp only [List.map_cons, isum, ih]; omega

/-- What a division gives is the total. -/
theorem div_sum {total sum : Int} {l x d : List Int} {left : Nat} (hp : d.Perm (idn l.length)) (hl : left ≤ l.length) (hleft : (left : Int) = total - isum (qs total sum l)) (hxl : x.length = l.length)
    (hx : ∀ p : Nat, x.getD p 0 = total * l.getD p 0 / sum + if ((p : Int) ∈ d.take left) then 1 else 0) : isum x = total := by
  have e : x = (List.range l.length).map fun i : Nat => total * l.getD i 0 / sum + (if (i : Int) ∈ d.take left then (1 : Int) else 0) := by
    refine ext_getD (by simp [hxl]) fun i hi => ?_
    rw [hx, getD_map_range _ _ _ _ (by omega)]
  have e2 : (List.range l.length).map (fun i : Nat => total * l.getD i 0 / sum) = qs total sum l := by
    refine ext_getD (by simp [qs]) fun i hi => ?_
    rw [getD_map_range _ _ _ _ (by simpa using hi), qs_getD]
  rw [e, isum_map_add, e2, count_take hp hl, hleft]; omega

theorem shares_true (total : Int) (l : List Int) (hl : l.length ≤ 9223372036854775807) : shares total l = some true := by
  unfold shares shares_body
  rw [small_true]
  simp only [Option.bind_some]
  by_cases hv : Valid total l
  · have hv' := hv
    obtain ⟨h64, hw, hM, ht0, ht1⟩ := hv
    rcases whole_is l with ⟨g, _⟩ | ⟨_, g⟩
    · rw [g]
      simp only [Option.bind_some, sc_and, cond_true]
      have c1 : decide (total ≥ 0) = true := decide_eq_true ht0
      have c2 : decide (total ≤ isum l) = true := decide_eq_true ht1
      rw [c1, c2]
      have hW := isum_W hw
      rcases Int.lt_or_le 0 (isum l) with hpos | hz
      · obtain ⟨d, x, left, s1, s2, s3, s4, s5, s6, s7⟩ := share_ok total l hw h64 hM ht0 ht1 hpos (sortStable_is _ _ (by simp [rs]) (by omega))
        rw [s5]
        simp only [Option.bind_some, Bool.and_self, beq_self_eq_true, bne_self_eq_false, Bool.not_true, cond_false, s6]
        exact shares_end (w := isum l) (den := isum l) (div_of hv' hpos s1 s2 s4 s7) (if_neg (by omega)) s6 h64 (div_sum s1.2.1 s2 s3 s6 s7) (some true)
      · have hz' : isum l = 0 := by omega
        have ht : total = 0 := by omega
        subst ht
        rw [share_zero l hw h64 hz']
        have zlen : (List.replicate l.length (0 : Int)).length = l.length := by simp
        simp only [Option.bind_some, Bool.and_self, beq_self_eq_true, bne_self_eq_false, Bool.not_true, cond_false, zlen]
        have hl0 : ∀ i, i < l.length → l.getD i 0 = 0 := fun i hi => by
          have hm := getD_mem l i 0 hi
          have h1 := (hw _ hm).1
          obtain ⟨a, b, e⟩ := List.append_of_mem hm
          have hz2 := hz'
          rw [e, isum_append] at hz2
          have h3 := isum_nonneg (l := a) (fun y hy => (hw y (by rw [e]; simp [hy])).1)
          have h4 := isum_nonneg (l := b) (fun y hy => (hw y (by rw [e]; simp [hy])).1)
          simp only [isum] at hz2
          omega
        refine shares_end (w := isum l) (Q := fun _ => 0) (Rm := fun _ => 0) (den := 1) ⟨fun i hi => ?_, fun i hi => .inl (getD_replicate _ _ _ _ hi), fun i hi => ?_, fun i hi => by omega, fun i hi => Int.le_refl 0, fun u v hu hv h1 h2 => ?_⟩ (if_pos (by omega)) zlen h64 (isum_zero fun y hy => (List.mem_replicate.1 hy).2) (some true)
        · rw [hl0 i hi, scale_eq, if_pos ⟨by omega, by omega, by omega, by omega, by omega, by omega, by decide⟩]; rfl
        · rw [getD_replicate _ _ _ _ hi, hl0 i hi]; omega
        · rw [getD_replicate _ _ _ _ hu] at h1; omega
    · exact absurd ⟨h64, hw, hM⟩ g
  · rw [share_bad total l hl hv]
    simp only [Option.bind_some]
    rcases whole_is l with ⟨g, g1, g2, g3⟩ | ⟨g, _⟩
    · rw [g]
      simp only [Option.bind_some, sc_and, cond_true, Bool.true_and]
      have : (decide (total ≥ 0) && decide (total ≤ isum l)) = false := by
        cases hh : (decide (total ≥ 0) && decide (total ≤ isum l))
        · rfl
        · simp only [Bool.and_eq_true, decide_eq_true_eq] at hh
          exact absurd ⟨g1, g2, g3, hh.1, hh.2⟩ hv
      rw [this]
      rfl
    · rw [g]
      rfl
end Go.Lift.S01
