import Derived.Test.YtnbknlaejebjbaaPX17
import Derived.Test.YtnbknlaejebjbaaPN17s
set_option linter.all false
/- The reference's division and sum. -/
set_option linter.unusedSimpArgs false
set_option linter.unusedVariables false
namespace Go.Lift.S17
open Go Go.Lift Go.Lift.Ar

def Valid (total : Int) (l : List Int) : Prop := l.length ≤ 64 ∧ AllW l ∧ isum l ≤ 1125899906842624 ∧ 0 ≤ total ∧ total ≤ isum l

theorem share_bad (total : Int) (l : List Int) (hl : l.length ≤ 9223372036854775807) (h : ¬ Valid total l) : share total l = some ([], false) := by
  unfold share share_body
  by_cases h64 : (l.length : Int) > 64
  · rw [decide_eq_true h64]; rfl
  · rw [decide_eq_false h64, cond_false, contains_eq l hl]
    simp only [Option.bind_some]
    cases ha : (l.any fun x => !okW x)
    · have hw : AllW l := fun x hx => by
        have : (!okW x) = false := by
          cases hh : !okW x
          · rfl
          · have : (l.any fun x => !okW x) = true := List.any_eq_true.2 ⟨x, hx, hh⟩
            rw [ha] at this; cases this
        unfold okW at this
        simp only [Bool.not_eq_false', Bool.and_eq_true, decide_eq_true_eq] at this
        exact this
      have hW := isum_W hw
      have l5 : share_loop5 scale containsFunc sortStable FUEL total l 0 l (l.length : Int) 0 = _ := share_loop5_is total l hw (by omega) FUEL 0 0 (fuel_gt _ hl) (by omega) (by omega) (by rw [List.drop_zero]; omega)
      simp only [cond_false, l5, Option.bind_some, List.drop_zero, Int.zero_add, sc_or]
      have g1 : (decide (isum l > 1125899906842624) || decide (total < 0) || decide (total > isum l)) = true := by
        simp only [Bool.or_eq_true, decide_eq_true_eq]
        by_cases a : isum l > 1125899906842624
        · exact .inl (.inl a)
        · by_cases b : total < 0
          · exact .inl (.inr b)
          · right
            rcases Int.lt_or_le (isum l) total with c | c
            · exact c
            · exact absurd ⟨by omega, hw, by omega, by omega, c⟩ h
      rw [g1]; rfl
    · rfl

theorem Fitw {l : List Int} (h0 : ∀ x, x ∈ l → 0 ≤ x) (h1 : isum l ≤ 1125899906842624) : AllW l := fun x hx => by
  refine ⟨h0 x hx, ?_⟩
  obtain ⟨a, b, rfl⟩ := List.append_of_mem hx
  rw [isum_append] at h1
  have h3 := isum_nonneg (l := a) (fun y hy => h0 y (by simp [hy]))
  have h4 := isum_nonneg (l := b) (fun y hy => h0 y (by simp [hy]))
  simp only [isum] at h1
  omega

theorem same_is (a b : List Int) (ha : a.length ≤ 9223372036854775807) : same a b = some (decide (a = b)) := by
  unfold same same_body
  by_cases h : a.length = b.length
  · have : ((a.length : Int) != (b.length : Int)) = false := by rw [h]; exact bne_self_eq_false _
    rw [this, cond_false]
    have key : ∀ (k i : Nat), a.length < i + k → i ≤ a.length → same_loop4 k a b (i : Int) = some (if a.drop i = b.drop i then .inl () else .inr false) := by
      intro k
      induction k with
      | zero => intro i h1 h2; omega
      | succ k ih =>
        intro i h1 h2
        unfold same_loop4 same_loop4_step
        rw [Int.toNat_natCast]
        by_cases hi : i < a.length
        · rw [drop_cons a i 0 hi, drop_cons b i 0 (by omega), inb _ _ hi, inb _ _ (show i < b.length by omega), decide_eq_true (show (i : Int) < (a.length : Int) by omega)]
          simp only [cond_true]
          generalize List.getD a i 0 = x at *
          generalize List.getD b i 0 = y at *
          by_cases hxy : x = y
          · subst hxy
            rw [bne_self_eq_false, cond_false, wi_id _ (by omega) (by omega)]
            have g := ih (i + 1) (by omega) (by omega)
            have g' : same_loop4 k a b ((i : Int) + 1) = _ := g
            rw [g']
            by_cases hd : a.drop (i + 1) = b.drop (i + 1)
            · rw [if_pos hd, if_pos (by rw [hd])]
            · rw [if_neg hd, if_neg (fun e => hd (List.cons.inj e).2)]
          · have : (x != y) = true := by simpa using hxy
            rw [this, cond_true, if_neg (fun e => hxy (List.cons.inj e).1)]
        · rw [decide_eq_false (show ¬ (i : Int) < (a.length : Int) by omega), cond_false, List.drop_eq_nil_of_le (by omega), List.drop_eq_nil_of_le (by omega), if_pos rfl]
    have g := key FUEL 0 (fuel_gt _ ha) (by omega)
    have g' : same_loop4 FUEL a b 0 = _ := g
    rw [g', List.drop_zero, List.drop_zero]
    by_cases hab : a = b
    · rw [if_pos hab, decide_eq_true hab]; rfl
    · rw [if_neg hab, decide_eq_false hab]; rfl
  · have : ((a.length : Int) != (b.length : Int)) = true := by simp; omega
    rw [this, cond_true, decide_eq_false (fun e => h (by rw [e]))]

/-- The best of those that are left below i. -/
def Best (R : List Int) (m : Nat → Bool) (i : Nat) (b : Int) : Prop :=
  (b = -1 ∧ ∀ q, q < i → m q = true) ∨ ∃ p : Nat, b = (p : Int) ∧ p < i ∧ m p = false ∧ ∀ q, q < i → m q = false → q = p ∨ bef R (p : Int) (q : Int)

theorem next_r_loop_is (R : List Int) (more : List Bool) (hl : more.length = R.length) (hn : R.length ≤ 64) : ∀ (k i : Nat) (b : Int), R.length < i + k → i ≤ R.length → Best R (fun q => more.getD q false) i b →
    ∃ b', next_r_loop3 k R more b (i : Int) = some b' ∧ Best R (fun q => more.getD q false) R.length b' := by
  intro k
  induction k with
  | zero => intro i b h hi; omega
  | succ k ih =>
    intro i b h hi0 hB
    unfold next_r_loop3 next_r_loop3_step
    rw [Int.toNat_natCast]
    by_cases hi : i < R.length
    · rw [hl, inb _ _ hi, decide_eq_true (show (i : Int) < (R.length : Int) by omega), wi_id ((i : Int) + 1) (by omega) (by omega)]
      simp only [cond_true]
      have eR : wt R (i : Int) = R.getD i 0 := by unfold wt; rw [Int.toNat_natCast]
      cases hm : more.getD i false
      · simp only [Bool.not_false, cond_true]
        rcases hB with ⟨hb, hB⟩ | ⟨p, hb, hp, hpm, hB⟩
        · subst hb
          have : decide ((-1 : Int) < 0) = true := by decide
          simp only [this, cond_true, Option.bind_some]
          exact ih (i + 1) (i : Int) (by omega) (by omega) (.inr ⟨i, rfl, by omega, hm, fun q hq hqm => by
            by_cases e : q = i
            · exact .inl e
            · have := hB q (by omega); rw [this] at hqm; cases hqm⟩)
        · subst hb
          have eP : wt R (p : Int) = R.getD p 0 := by unfold wt; rw [Int.toNat_natCast]
          rw [decide_eq_false (show ¬ (p : Int) < 0 by omega), inb _ _ (show p < R.length by omega), Int.toNat_natCast]
          simp only [cond_false, cond_true, Option.bind_some]
          by_cases hg : R.getD i 0 > R.getD p 0
          · rw [decide_eq_true hg, cond_true]
            exact ih (i + 1) (i : Int) (by omega) (by omega) (.inr ⟨i, rfl, by omega, hm, fun q hq hqm => by
              by_cases e : q = i
              · exact .inl e
              · right
                rcases hB q (by omega) hqm with e2 | e2
                · subst e2; exact .inl (by rw [eP, eR]; exact hg)
                · unfold bef at e2 ⊢; omega⟩)
          · rw [decide_eq_false hg, cond_false]
            exact ih (i + 1) (p : Int) (by omega) (by omega) (.inr ⟨p, rfl, by omega, hpm, fun q hq hqm => by
              by_cases e : q = i
              · subst e; right; unfold bef; omega
              · exact hB q (by omega) hqm⟩)
      · simp only [Bool.not_true, cond_false, Option.bind_some]
        exact ih (i + 1) b (by omega) (by omega) (by
          rcases hB with ⟨hb, hB⟩ | ⟨p, hb, hp, hpm, hB⟩
          · refine .inl ⟨hb, fun q hq => ?_⟩
            by_cases e : q = i
            · subst e; exact hm
            · exact hB q (by omega)
          · refine .inr ⟨p, hb, by omega, hpm, fun q hq hqm => ?_⟩
            by_cases e : q = i
            · subst e; have hq2 : more.getD q false = false := hqm; rw [hm] at hq2; cases hq2
            · exact hB q (by omega) hqm)
    · have : i = R.length := by omega
      subst this
      rw [decide_eq_false (show ¬ ((R.length : Nat) : Int) < (R.length : Int) by omega), cond_false]
      exact ⟨b, rfl, hB⟩

/-- The next one is the one that comes first among those that are left. -/
theorem next_r_is (R : List Int) (more : List Bool) (hl : more.length = R.length) (hn : R.length ≤ 64) (p : Nat) (hp : p < R.length) (hm : more.getD p false = false) (hb : ∀ q, q < R.length → more.getD q false = false → q = p ∨ bef R (p : Int) (q : Int)) : next_r R more = some (p : Int) := by
  unfold next_r next_r_body
  obtain ⟨b, g1, g2⟩ := next_r_loop_is R more hl hn FUEL 0 (-1) (fuel_gt _ (by omega)) (by omega) (.inl ⟨rfl, fun q hq => by omega⟩)
  have g1' : next_r_loop3 FUEL R more (-1) 0 = some b := g1
  rw [g1']
  simp only [Option.bind_some, Option.some.injEq]
  rcases g2 with ⟨_, g2⟩ | ⟨p', e, h1, h2, h3⟩
  · have hp2 : more.getD p false = true := g2 p hp; rw [hm] at hp2; cases hp2
  · subst e
    have a := hb p' h1 h2
    have b := h3 p hp hm
    unfold bef at a b
    omega

/-- The remainders are given out in the order of the sorting. -/
theorem share_r_loop23_is {R d : List Int} {n : Nat} (hS : Srt R d n) (hR : R.length = n) (hn : n ≤ 64) (left : Nat) (hleft : left ≤ n) (Q : Nat → Int) (hQ : ∀ p, p < n → 0 ≤ Q p ∧ Q p ≤ 1125899906842624) : ∀ (k s : Nat) (parts : List Int) (more : List Bool), left < s + k → s ≤ left → parts.length = n → more.length = n →
    (∀ p, p < n → parts.getD p 0 = Q p + if ((p : Int) ∈ d.take s) then 1 else 0) → (∀ p, p < n → more.getD p false = decide ((p : Int) ∈ d.take s)) →
    ∃ x, share_r_loop23 scale_r next_r k ((left - s : Nat) : Int) parts R more = some x ∧ x.length = n ∧ ∀ p, p < n → x.getD p 0 = Q p + if ((p : Int) ∈ d.take left) then 1 else 0 := by
  intro k
  induction k with
  | zero => intro s parts more h hs; omega
  | succ k ih =>
    intro s parts more h hs hp hm h1 h2
    unfold share_r_loop23 share_r_loop23_step
    by_cases hlt : s < left
    · rw [decide_eq_true (show ((left - s : Nat) : Int) > 0 by omega), cond_true]
      have hdl := hS.1
      have hmem := hS.2.1.mem_iff.1 (getD_mem d s 0 (by omega))
      have hmb := mem_idn.1 hmem
      obtain ⟨j, hj⟩ := Int.eq_ofNat_of_zero_le hmb.1
      have hjn : j < n := by omega
      have hnd : d.Nodup := hS.2.1.nodup_iff.2 (idn_nodup n)
      have htk : d.take (s + 1) = d.take s ++ [(j : Int)] := by
        rw [List.take_succ_eq_append_getElem (by omega), ← hj, List.getD_eq_getElem?_getD, List.getElem?_eq_getElem (by omega)]; rfl
      have hjn' : ¬ (j : Int) ∈ d.take s := fun hh => by
        obtain ⟨q, hq, e⟩ := List.getElem_of_mem hh
        rw [List.length_take] at hq
        rw [List.getElem_take] at e
        have b := hS.2.2 q s (by omega) (by omega)
        have e' : d.getD q 0 = (j : Int) := by rw [List.getD_eq_getElem?_getD, List.getElem?_eq_getElem (by omega)]; exact e
        rw [e', hj] at b
        unfold bef at b; omega
      have g := next_r_is R more (by omega) (by omega) j (by omega) (by rw [h2 j hjn]; exact decide_eq_false hjn') (fun q hq hqm => by
        rw [h2 q (by omega)] at hqm
        have hqm' := of_decide_eq_false hqm
        have hqd : (q : Int) ∈ d := hS.2.1.mem_iff.2 (mem_idn.2 (by omega))
        obtain ⟨u, hu, e⟩ := List.getElem_of_mem hqd
        have e' : d.getD u 0 = (q : Int) := by rw [List.getD_eq_getElem?_getD, List.getElem?_eq_getElem (by omega)]; exact e
        rcases Nat.lt_or_ge u s with a | a
        · exfalso; apply hqm'
          have : (d.take s).getD u 0 = d.getD u 0 := by
            simp only [List.getD_eq_getElem?_getD, List.getElem?_take, if_pos a]
          rw [← e', ← this]
          exact getD_mem _ _ _ (by rw [List.length_take]; omega)
        · by_cases e2 : u = s
          · left; rw [e2, hj] at e'; omega
          · right
            have b := hS.2.2 s u (by omega) (by omega)
            rw [hj, e'] at b
            exact b)
      rw [g]
      simp only [Option.bind_some]
      rw [hp, hm, inb _ _ hjn, Int.toNat_natCast, Nat.zero_add, wi_id (((left - s : Nat) : Int) - 1) (by omega) (by omega), show ((left - s : Nat) : Int) - 1 = ((left - (s + 1) : Nat) : Int) by omega]
      simp only [cond_true]
      have hv := hQ j hjn
      rw [h1 j hjn, if_neg hjn', wi_id _ (by omega) (by omega)]
      refine ih (s + 1) _ _ (by omega) (by omega) (by rw [List.length_set]; exact hp) (by rw [List.length_set]; exact hm) (fun p hpn => ?_) (fun p hpn => ?_)
      · rw [getD_set, htk]
        by_cases e : j = p
        · subst e; rw [if_pos ⟨rfl, by omega⟩, if_pos (by simp)]; omega
        · rw [if_neg (fun hh => e hh.1), h1 p hpn]
          congr 1
          by_cases hh : (p : Int) ∈ d.take s
          · rw [if_pos hh, if_pos (List.mem_append_left _ hh)]
          · rw [if_neg hh, if_neg]
            intro h3
            rcases List.mem_append.1 h3 with h3 | h3
            · exact hh h3
            · have := List.mem_singleton.1 h3; omega
      · rw [getD_set, htk]
        by_cases e : j = p
        · subst e; rw [if_pos ⟨rfl, by omega⟩, decide_eq_true (List.mem_append_right _ (List.mem_singleton.2 rfl))]
        · rw [if_neg (fun hh => e hh.1), h2 p hpn, decide_eq_decide]
          constructor
          · exact fun hh => List.mem_append_left _ hh
          · intro h3
            rcases List.mem_append.1 h3 with h3 | h3
            · exact h3
            · have := List.mem_singleton.1 h3; omega
    · have : s = left := by omega
      subst this
      rw [decide_eq_false (show ¬ ((s - s : Nat) : Int) > 0 by omega), cond_false]
      exact ⟨parts, rfl, hp, h1⟩

theorem share_r_loop16_is (total sum : Int) (w : List Int) (hw : AllW w) (hn : w.length ≤ 64) (ht : 0 ≤ total) (hts : total ≤ sum) (hs : 0 < sum) (hsM : sum ≤ 1125899906842624) : ∀ (k i : Nat) (left : Int) (parts rests : List Int), w.length < i + k → i ≤ w.length →
    parts.length = w.length → rests.length = w.length → (∀ p, p < i → parts.getD p 0 = total * w.getD p 0 / sum ∧ rests.getD p 0 = total * w.getD p 0 % sum) →
    -((w.length : Int) * 1125899906842624) ≤ left - isum (qs total sum (w.drop i)) → left ≤ 1125899906842624 →
    share_r_loop16 scale_r next_r k total w sum left (i : Int) parts rests = some (w, left - isum (qs total sum (w.drop i)), qs total sum w, rs total sum w) := by
  intro k
  induction k with
  | zero => intro i l p r h hi; omega
  | succ k ih =>
    intro i left parts rests h hi0 lp lr hI hlo hhi
    unfold share_r_loop16 share_r_loop16_step
    rw [Int.toNat_natCast, Nat.zero_add]
    by_cases hi : i < w.length
    · have hx := hw _ (getD_mem w i 0 hi)
      have hsub : AllW (w.drop (i + 1)) := fun y hy => hw y (List.mem_of_mem_drop hy)
      have hqn : 0 ≤ isum (qs total sum (w.drop (i + 1))) := isum_nonneg fun y hy => by
        obtain ⟨z, hz, rfl⟩ := List.mem_map.1 hy
        exact (q_le ht hts hs (hsub z hz).1).1
      have hq := q_le ht hts hs hx.1
      have hsc : scale_r total (w.getD i 0) sum = some (total * w.getD i 0 / sum, total * w.getD i 0 % sum, true) := by
        rw [scale_r_eq, scale_eq, if_pos ⟨ht, by omega, hx.1, hx.2, by omega, hsM, by omega⟩]
      have hset : ∀ (l : List Int) (v : Int), l.length = w.length → ∀ p, (l.set i v).getD p 0 = if p = i then v else l.getD p 0 := fun l v hl p => by
        rw [getD_set]
        by_cases hp : i = p
        · subst hp; rw [if_pos ⟨rfl, by omega⟩, if_pos rfl]
        · rw [if_neg (fun h => hp h.1), if_neg (fun h => hp h.symm)]
      have hI' : ∀ p, p < i + 1 → (parts.set i (total * w.getD i 0 / sum)).getD p 0 = total * w.getD p 0 / sum ∧ (rests.set i (total * w.getD i 0 % sum)).getD p 0 = total * w.getD p 0 % sum := fun p hp => by
        rw [hset _ _ lp, hset _ _ lr]
        by_cases hpi : p = i
        · subst hpi; simp
        · rw [if_neg hpi, if_neg hpi]; exact hI p (by omega)
      have nx := ih (i + 1) (left - total * w.getD i 0 / sum) (parts.set i (total * w.getD i 0 / sum)) (rests.set i (total * w.getD i 0 % sum)) (by omega) (by omega) (by simpa using lp) (by simpa using lr) hI'
      have hd : qs total sum (w.drop i) = total * w.getD i 0 / sum :: qs total sum (w.drop (i + 1)) := by rw [drop_cons w i 0 hi]; rfl
      rw [hd] at hlo ⊢
      simp only [isum] at hlo ⊢
      rw [lp, lr, inb _ _ hi, decide_eq_true (show (i : Int) < (w.length : Int) by omega), decide_eq_true (show sum > 0 by omega), hsc]
      simp only [cond_true, Option.bind_some]
      rw [wi_id ((i : Int) + 1) (by omega) (by omega), wi_id (left - _) (by omega) (by omega)]
      have := nx (by omega) (by omega)
      rw [show left - (total * w.getD i 0 / sum + isum (qs total sum (w.drop (i + 1)))) = left - total * w.getD i 0 / sum - isum (qs total sum (w.drop (i + 1))) by omega]
      exact this
    · have hiw : i = w.length := by omega
      rw [(List.drop_eq_nil_of_le (by omega) : w.drop i = []), decide_eq_false (show ¬ (i : Int) < (w.length : Int) by omega)]
      simp only [cond_false, Option.bind_some, qs, List.map_nil, isum, Int.sub_zero, Option.some.injEq, Prod.mk.injEq, true_and]
      refine ⟨ext_getD (by simp [lp]) fun p hp => ?_, ext_getD (by simp [lr, rs]) fun p hp => ?_⟩
      · rw [(hI p (by omega)).1]; exact (qs_getD total sum w p).symm
      · rw [(hI p (by omega)).2, rs_getD]

theorem share_r_loop5_is (total : Int) (l : List Int) (hl : l.length ≤ 64) : ∀ (k i : Nat) (w : Int), l.length < i + k → i ≤ l.length → 0 ≤ w → w ≤ 1125899906842624 →
    share_r_loop5 scale_r next_r k total l w (i : Int) = some (.inl (total, l, w + isum (l.drop i))) ∧ (∀ x, x ∈ l.drop i → 0 ≤ x) ∧ w + isum (l.drop i) ≤ 1125899906842624 ∨ share_r_loop5 scale_r next_r k total l w (i : Int) = some (.inr false) ∧ ¬ ((∀ x, x ∈ l.drop i → 0 ≤ x) ∧ w + isum (l.drop i) ≤ 1125899906842624) := by
  intro k
  induction k with
  | zero => intro i w h hi; omega
  | succ k ih =>
    intro i w h hi0 hw0 hw1
    unfold share_r_loop5 share_r_loop5_step
    rw [Int.toNat_natCast]
    by_cases hi : i < l.length
    · rw [drop_cons l i 0 hi, inb _ _ hi]
      generalize List.getD l i 0 = x at *
      have hlt : decide ((i : Int) < (l.length : Int)) = true := decide_eq_true (by omega)
      rw [hlt, wi_id (1125899906842624 - w) (by omega) (by omega)]
      simp only [cond_true, sc_or, Option.bind_some, isum]
      by_cases hx : x < 0 ∨ x > 1125899906842624 - w
      · have : (decide (x < 0) || decide (x > 1125899906842624 - w)) = true := by simpa using hx
        rw [this, cond_true]
        refine .inr ⟨rfl, fun hh => ?_⟩
        have h1 := hh.1 x (by simp)
        have h2 := isum_nonneg (l := l.drop (i + 1)) (fun y hy => hh.1 y (by simp [hy]))
        have := hh.2; omega
      · have : (decide (x < 0) || decide (x > 1125899906842624 - w)) = false := by simp; omega
        rw [this, cond_false, wi_id (w + x) (by omega) (by omega), wi_id ((i : Int) + 1) (by omega) (by omega)]
        rcases ih (i + 1) (w + x) (by omega) (by omega) (by omega) (by omega) with ⟨g1, g2, g3⟩ | ⟨g1, g2⟩
        · refine .inl ⟨by rw [← Int.add_assoc]; exact g1, fun y hy => ?_, by omega⟩
          rcases List.mem_cons.1 hy with rfl | hy
          · omega
          · exact g2 y hy
        · exact .inr ⟨g1, fun hh => g2 ⟨fun y hy => hh.1 y (by simp [hy]), by have := hh.2; omega⟩⟩
    · have hlt : decide ((i : Int) < (l.length : Int)) = false := decide_eq_false (by omega)
      rw [(List.drop_eq_nil_of_le (by omega) : l.drop i = []), hlt, cond_false]
      exact .inl ⟨by simp [isum], fun x hx => (by cases hx), by simp [isum]; omega⟩

/-- The reference divides alike. -/
theorem share_r_eq (total : Int) (l : List Int) (hl : l.length ≤ 9223372036854775807) : share_r total l = share total l := by
  by_cases h64 : l.length ≤ 64
  · unfold share_r share_r_body
    rw [decide_eq_false (show ¬ (l.length : Int) > 64 by omega), cond_false]
    rcases share_r_loop5_is total l h64 FUEL 0 0 (fuel_gt _ (by omega)) (by omega) (by omega) (by omega) with ⟨g1, g2, g3⟩ | ⟨g1, g2⟩
    · rw [List.drop_zero, Int.zero_add] at *
      have g1' : share_r_loop5 scale_r next_r FUEL total l 0 0 = _ := g1
      rw [g1']
      have hw := Fitw g2 g3
      have hW := isum_W hw
      simp only [Option.bind_some, Sum.elim, sc_or]
      by_cases hT : 0 ≤ total ∧ total ≤ isum l
      · rw [decide_eq_false (show ¬ total < 0 by omega), decide_eq_false (show ¬ total > isum l by omega)]
        simp only [Bool.or_self, cond_false]
        rw [room4 (w := 8) (by omega) (by omega), Int.toNat_natCast]
        simp only [cond_true]
        rcases Int.lt_or_le 0 (isum l) with hpos | hz
        · obtain ⟨d, x, left, s1, s2, s3, s4, s5, s6, s7⟩ := share_ok total l hw h64 g3 hT.1 hT.2 hpos (sortStable_is _ _ (by simp [rs]) (by omega))
          have l16 : share_r_loop16 scale_r next_r FUEL total l (isum l) total 0 (List.replicate l.length 0) (List.replicate l.length 0) = _ := share_r_loop16_is total (isum l) l hw h64 hT.1 hT.2 hpos g3 FUEL 0 total _ _ (fuel_gt _ (by omega)) (by omega) (by simp) (by simp) (fun p hp => by omega) (by rw [List.drop_zero]; omega) (by omega)
          rw [l16, List.drop_zero, ← s3]
          simp only [Option.bind_some]
          rw [room4 (w := 1) (by omega) (by omega), Int.toNat_natCast]
          simp only [cond_true]
          obtain ⟨y, y1, y2, y3⟩ := share_r_loop23_is s1 (by simp [rs]) h64 left s2 (fun p => total * l.getD p 0 / isum l) (fun p hp => by
            have hx := hw _ (getD_mem l p 0 hp)
            have := q_le hT.1 hT.2 hpos hx.1
            show 0 ≤ total * l.getD p 0 / isum l ∧ total * l.getD p 0 / isum l ≤ _
            omega) FUEL 0 (qs total (isum l) l) (List.replicate l.length false) (fuel_gt _ (by omega)) (by omega) (by simp [qs]) (by simp) (fun p hp => by rw [qs_getD, List.take_zero, if_neg (by simp)]; omega) (fun p hp => by rw [getD_replicate _ _ _ _ hp, List.take_zero]; simp)
          rw [Nat.sub_zero] at y1
          rw [y1, s5]
          simp only [Option.bind_some, Option.some.injEq, Prod.mk.injEq, and_true]
          exact ext_getD (by omega) fun p hp => by rw [y3 p (by omega), s7 p]
        · have hz' : isum l = 0 := by omega
          have ht : total = 0 := by omega
          subst ht
          rw [share_zero l hw h64 hz', hz']
          have hF : FUEL = 18446744073709551615 + 1 := rfl
          have l16 : share_r_loop16 scale_r next_r FUEL 0 l 0 0 0 (List.replicate l.length 0) (List.replicate l.length 0) = some (l, 0, List.replicate l.length 0, List.replicate l.length 0) := by
            rw [hF]
            unfold share_r_loop16 share_r_loop16_step
            cases decide ((0 : Int) < (l.length : Int)) <;> rfl
          rw [l16]
          simp only [Option.bind_some]
          rw [room4 (w := 1) (by omega) (by omega), Int.toNat_natCast]
          have l23 : share_r_loop23 scale_r next_r FUEL 0 (List.replicate l.length 0) (List.replicate l.length 0) (List.replicate l.length false) = some (List.replicate l.length 0) := by
            rw [hF]; rfl
          simp only [cond_true, l23, Option.bind_some]
      · have : (decide (total < 0) || decide (total > isum l)) = true := by simp only [Bool.or_eq_true, decide_eq_true_eq]; omega
        rw [this, cond_true, share_bad total l hl (fun hv => hT ⟨hv.2.2.2.1, hv.2.2.2.2⟩)]
    · rw [List.drop_zero, Int.zero_add] at *
      have g1' : share_r_loop5 scale_r next_r FUEL total l 0 0 = _ := g1
      rw [g1', share_bad total l hl (fun hv => g2 ⟨fun x hx => (hv.2.1 x hx).1, hv.2.2.1⟩)]
      rfl
  · rw [share_bad total l hl (fun hv => h64 hv.1)]
    unfold share_r share_r_body
    rw [decide_eq_true (show (l.length : Int) > 64 by omega)]; rfl
theorem mask32 (z : Int) : wi (↑(BitVec.toNat (BitVec.ofInt ((64 : Nat)) z &&& BitVec.ofInt ((64 : Nat)) 4294967295)) : Int) = z % 4294967296 := by
  have e64 : ((2 ^ 64 : Nat) : Int) = 18446744073709551616 := rfl
  have e : ((4294967295 : Int) % ((2 ^ 64 : Nat) : Int)).toNat = 2 ^ 32 - 1 := by decide
  have ek : (2 : Nat) ^ 32 = 4294967296 := rfl
  rw [BitVec.toNat_and, BitVec.toNat_ofInt, BitVec.toNat_ofInt, e, e64, Nat.and_two_pow_sub_one_eq_mod, ek, wi_id _ (by omega) (by omega)]
  omega

theorem fd32' (x : Int) : Int.fdiv x (2 ^ (32 : Nat)) = x / 4294967296 := fd32 x

def hiS : List Int → Int
  | [] => 0
  | x :: l => x / 4294967296 + hiS l
def loS : List Int → Int
  | [] => 0
  | x :: l => x % 4294967296 + loS l

theorem hi_lo : ∀ l : List Int, isum l = hiS l * 4294967296 + loS l
  | [] => rfl
  | x :: l => by
    have := hi_lo l
    simp only [isum, hiS, loS]; omega

theorem hi_bound {l : List Int} (h : ∀ x, x ∈ l → InR x) : -((l.length : Int) * 2147483648) ≤ hiS l ∧ hiS l ≤ (l.length : Int) * 2147483647 ∧ 0 ≤ loS l ∧ loS l ≤ (l.length : Int) * 4294967295 := by
  induction l with
  | nil => simp [hiS, loS]
  | cons x l ih =>
    have := h x (by simp)
    have := ih (fun y hy => h y (by simp [hy]))
    unfold InR at *
    simp only [hiS, loS, List.length_cons]; omega

theorem sum_r_loop_is (l : List Int) (hr : ∀ x, x ∈ l → InR x) (hl : l.length ≤ 1000) : ∀ (k i : Nat) (a b : Int), l.length < i + k → i ≤ l.length → -((i : Int) * 2147483648) ≤ a → a ≤ (i : Int) * 2147483648 → 0 ≤ b → b ≤ (i : Int) * 4294967296 →
    sum_r_loop4 k l a b (i : Int) = some (a + hiS (l.drop i), b + loS (l.drop i)) := by
  intro k
  induction k with
  | zero => intro i a b h hi; omega
  | succ k ih =>
    intro i a b h hi0 a0 a1 b0 b1
    unfold sum_r_loop4 sum_r_loop4_step
    rw [Int.toNat_natCast]
    by_cases hi : i < l.length
    · have hx := hr _ (getD_mem l i 0 hi)
      rw [drop_cons l i 0 hi, inb _ _ hi, decide_eq_true (show (i : Int) < (l.length : Int) by omega), fd32', mask32]
      simp only [cond_true, hiS, loS]
      generalize List.getD l i 0 = x at *
      unfold InR at hx
      rw [wi_id (a + _) (by omega) (by omega), wi_id (b + _) (by omega) (by omega), wi_id ((i : Int) + 1) (by omega) (by omega)]
      have g := ih (i + 1) (a + x / 4294967296) (b + x % 4294967296) (by omega) (by omega) (by omega) (by omega) (by omega) (by omega)
      rw [show a + (x / 4294967296 + hiS (l.drop (i + 1))) = a + x / 4294967296 + hiS (l.drop (i + 1)) by omega, show b + (x % 4294967296 + loS (l.drop (i + 1))) = b + x % 4294967296 + loS (l.drop (i + 1)) by omega]
      exact g
    · rw [decide_eq_false (show ¬ (i : Int) < (l.length : Int) by omega), cond_false, List.drop_eq_nil_of_le (by omega)]
      simp only [hiS, loS, Int.add_zero]

theorem sum_r_eq (l : List Int) (hr : ∀ x, x ∈ l → InR x) (hl : l.length ≤ 1000) : sum_r l = sum l := by
  rw [sum_eq l hr (by omega)]
  unfold sum_r sum_r_body
  have g := sum_r_loop_is l hr hl FUEL 0 0 0 (fuel_gt _ (by omega)) (by omega) (by omega) (by omega) (by omega) (by omega)
  have g' : sum_r_loop4 FUEL l 0 0 0 = _ := g
  rw [List.drop_zero, Int.zero_add, Int.zero_add] at g'
  rw [g']
  have hb := hi_bound hr
  rw [hi_lo l]
  simp only [Option.bind_some, sc_or]
  rw [fd32', mask32]
  generalize hiS l = a at *
  generalize loS l = b at *
  rw [wi_id (a + b / 4294967296) (by omega) (by omega)]
  by_cases hc : -9223372036854775808 ≤ a * 4294967296 + b ∧ a * 4294967296 + b ≤ 9223372036854775807
  · have : (decide (a + b / 4294967296 < -2147483648) || decide (a + b / 4294967296 > 2147483647)) = false := by
      rw [Bool.or_eq_false_iff]; exact ⟨decide_eq_false (by omega), decide_eq_false (by omega)⟩
    rw [this, if_pos hc, cond_false]
    have e : (2 : Int) ^ (32 : Nat) = 4294967296 := rfl
    rw [e, wi_id ((a + b / 4294967296) * 4294967296) (by omega) (by omega), wi_id _ (by omega) (by omega), show (a + b / 4294967296) * 4294967296 + b % 4294967296 = a * 4294967296 + b by omega]
  · have : (decide (a + b / 4294967296 < -2147483648) || decide (a + b / 4294967296 > 2147483647)) = true := by
      simp only [Bool.or_eq_true, decide_eq_true_eq]; omega
    rw [this, if_neg hc, cond_true]

end Go.Lift.S17
