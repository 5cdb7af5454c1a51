import Derived.Test.YtnbknlaejebjbaaPI17
set_option linter.all false
/- exact.Share. -/
set_option linter.unusedSimpArgs false
set_option linter.unusedVariables false
namespace Go.Lift.S17
open Go Go.Lift Go.Lift.Ar

def okW (x : Int) : Bool := decide (0 ≤ x) && decide (x ≤ 1125899906842624)

theorem index_loop_is (s : List Int) (hl : s.length ≤ 9223372036854775807) : ∀ (k i : Nat), s.length < i + k → i ≤ s.length →
    indexFunc_loop2 share1 k s (s.length : Int) i = some (.inl ()) ∧ (s.drop i).any (fun x => !okW x) = false ∨ (∃ j : Nat, indexFunc_loop2 share1 k s (s.length : Int) i = some (.inr (j : Int))) ∧ (s.drop i).any (fun x => !okW x) = true := by
  intro k
  induction k with
  | zero => intro i h hi; omega
  | succ k ih =>
    intro i h hi0
    unfold indexFunc_loop2 indexFunc_loop2_step
    rw [Int.toNat_natCast]
    by_cases hi : i < s.length
    · rw [drop_cons s i 0 hi, inb _ _ hi]
      generalize List.getD s i 0 = x at *
      have hi' : (i : Int) < (s.length : Int) := by omega
      have e : share1 x = some (!okW x) := by
        unfold share1 share1_body okW
        rw [in_eq]; rfl
      simp only [hi', decide_true, cond_true, e, Option.bind_some, wi_id ((i : Int) + 1) (by omega) (by omega), List.any_cons]
      cases hx : okW x
      · simp only [Bool.not_false, cond_true, Bool.true_or]
        exact .inr ⟨⟨i, rfl⟩, trivial⟩
      · simp only [Bool.not_true, cond_false, Bool.false_or]
        exact ih (i + 1) (by omega) (by omega)
    · have hi' : ¬ (i : Int) < (s.length : Int) := by omega
      rw [(List.drop_eq_nil_of_le (by omega) : s.drop i = [])]
      simp only [hi', decide_false, cond_false]
      exact .inl ⟨trivial, rfl⟩

theorem contains_eq (s : List Int) (hl : s.length ≤ 9223372036854775807) : containsFunc s = some (s.any fun x => !okW x) := by
  unfold containsFunc containsFunc_body indexFunc indexFunc_body
  rcases index_loop_is s hl FUEL 0 (fuel_gt _ hl) (by omega) with ⟨h1, h2⟩ | ⟨⟨j, h1⟩, h2⟩
  · have h1' : indexFunc_loop2 share1 FUEL s (s.length : Int) 0 = _ := h1
    rw [List.drop_zero] at h2
    rw [h1', h2]; rfl
  · have h1' : indexFunc_loop2 share1 FUEL s (s.length : Int) 0 = _ := h1
    rw [List.drop_zero] at h2
    rw [h1', h2]
    simp only [Option.bind_some, Sum.elim, Option.some.injEq]
    exact decide_eq_true (by omega)

def AllW (w : List Int) : Prop := ∀ x, x ∈ w → 0 ≤ x ∧ x ≤ 1125899906842624

theorem isum_W : ∀ {w : List Int}, AllW w → 0 ≤ isum w ∧ isum w ≤ (w.length : Int) * 1125899906842624
  | [], _ => by simp [isum]
  | x :: w, h => by
    have := h x (by simp)
    have := isum_W (w := w) (fun y hy => h y (by simp [hy]))
    simp only [isum, List.length_cons]; omega

theorem share_loop5_is (total : Int) (w : List Int) (hw : AllW w) (hn : w.length ≤ 64) : ∀ (k i : Nat) (s : Int), w.length < i + k → i ≤ w.length → 0 ≤ s → s + isum (w.drop i) ≤ 72057594037927936 →
    share_loop5 scale containsFunc sortStable k total w s w (w.length : Int) (i : Int) = some (total, w, s + isum (w.drop i)) := by
  intro k
  induction k with
  | zero => intro i s h hi; omega
  | succ k ih =>
    intro i s h hi0 hs hle
    unfold share_loop5 share_loop5_step
    rw [Int.toNat_natCast]
    by_cases hi : i < w.length
    · have hx := hw _ (getD_mem w i 0 hi)
      have hnn := (isum_W (w := w.drop (i + 1)) (fun y hy => hw y (List.mem_of_mem_drop hy))).1
      rw [drop_cons w i 0 hi] at hle ⊢
      rw [inb _ _ hi]
      generalize List.getD w i 0 = x at *
      simp only [isum] at hle
      have hi' : (i : Int) < (w.length : Int) := by omega
      simp only [hi', decide_true, cond_true, isum]
      rw [wi_id ((i : Int) + 1) (by omega) (by omega), wi_id (s + x) (by omega) (by omega), ← Int.add_assoc]
      exact ih (i + 1) (s + x) (by omega) (by omega) (by omega) (by omega)
    · have hi' : ¬ (i : Int) < (w.length : Int) := by omega
      rw [(List.drop_eq_nil_of_le (by omega) : w.drop i = [])]
      simp only [hi', decide_false, cond_false, isum, Int.add_zero]

/-- The quotients and the remainders. -/
def qs (total sum : Int) (w : List Int) : List Int := w.map fun x => total * x / sum
def rs (total sum : Int) (w : List Int) : List Int := w.map fun x => total * x % sum
theorem qs_getD (total sum : Int) (w : List Int) (i : Nat) : (qs total sum w).getD i 0 = total * w.getD i 0 / sum := by
  unfold qs
  simp only [List.getD_eq_getElem?_getD, List.getElem?_map]
  cases w[i]? with
  | none => simp
  | some x => rfl
theorem rs_getD (total sum : Int) (w : List Int) (i : Nat) : (rs total sum w).getD i 0 = total * w.getD i 0 % sum := by
  unfold rs
  simp only [List.getD_eq_getElem?_getD, List.getElem?_map]
  cases w[i]? with
  | none => simp
  | some x => rfl

theorem q_le {total sum x : Int} (ht : 0 ≤ total) (hts : total ≤ sum) (hs : 0 < sum) (hx : 0 ≤ x) : 0 ≤ total * x / sum ∧ total * x / sum ≤ x := by
  refine ⟨Int.ediv_nonneg (Int.mul_nonneg ht hx) (by omega), ?_⟩
  have : total * x ≤ sum * x := Int.mul_le_mul_of_nonneg_right hts hx
  have h2 : total * x / sum < x + 1 := (Int.ediv_lt_iff_lt_mul hs).2 (by rw [Int.add_mul, Int.one_mul, Int.mul_comm x sum]; omega)
  omega

theorem share_loop18_is (total sum : Int) (w : List Int) (hw : AllW w) (hn : w.length ≤ 64) (ht : 0 ≤ total) (hts : total ≤ sum) (hs : 0 < sum) (hsM : sum ≤ 1125899906842624) : ∀ (k i : Nat) (left : Int) (parts rests order : List Int), w.length < i + k → i ≤ w.length →
    parts.length = w.length → rests.length = w.length → order.length = w.length → (∀ p, p < i → parts.getD p 0 = total * w.getD p 0 / sum ∧ rests.getD p 0 = total * w.getD p 0 % sum ∧ order.getD p 0 = (p : Int)) →
    -((w.length : Int) * 1125899906842624) ≤ left - isum (qs total sum (w.drop i)) → left ≤ 1125899906842624 →
    share_loop18 scale containsFunc sortStable k total sum left w (w.length : Int) (i : Int) parts () rests order = some (left - isum (qs total sum (w.drop i)), qs total sum w, (), rs total sum w, idn w.length) := by
  intro k
  induction k with
  | zero => intro i l p r o h hi; omega
  | succ k ih =>
    intro i left parts rests order h hi0 lp lr lo hI hlo hhi
    unfold share_loop18 share_loop18_step
    rw [Int.toNat_natCast, Nat.zero_add]
    by_cases hi : i < w.length
    · have hx := hw _ (getD_mem w i 0 hi)
      have hsub : AllW (w.drop (i + 1)) := fun y hy => hw y (List.mem_of_mem_drop hy)
      have hqn : 0 ≤ isum (qs total sum (w.drop (i + 1))) := isum_nonneg fun y hy => by
        obtain ⟨z, hz, rfl⟩ := List.mem_map.1 hy
        exact (q_le ht hts hs (hsub z hz).1).1
      have hq := q_le ht hts hs hx.1
      have hsc : scale total (w.getD i 0) sum = some (total * w.getD i 0 / sum, total * w.getD i 0 % sum, true) := by
        rw [scale_eq, if_pos ⟨ht, by omega, hx.1, hx.2, by omega, hsM, by omega⟩]
      have hset : ∀ (l : List Int) (v : Int), l.length = w.length → ∀ p, (l.set i v).getD p 0 = if p = i then v else l.getD p 0 := fun l v hl p => by
        rw [getD_set]
        by_cases hp : i = p
        · subst hp; rw [if_pos ⟨rfl, by omega⟩, if_pos rfl]
        · rw [if_neg (fun h => hp h.1), if_neg (fun h => hp h.symm)]
      have hI' : ∀ p, p < i + 1 → (parts.set i (total * w.getD i 0 / sum)).getD p 0 = total * w.getD p 0 / sum ∧ (rests.set i (total * w.getD i 0 % sum)).getD p 0 = total * w.getD p 0 % sum ∧ (order.set i (i : Int)).getD p 0 = (p : Int) := fun p hp => by
        rw [hset _ _ lp, hset _ _ lr, hset _ _ lo]
        by_cases hpi : p = i
        · subst hpi; simp
        · rw [if_neg hpi, if_neg hpi, if_neg hpi]; exact hI p (by omega)
      have nx := ih (i + 1) (left - total * w.getD i 0 / sum) (parts.set i (total * w.getD i 0 / sum)) (rests.set i (total * w.getD i 0 % sum)) (order.set i (i : Int)) (by omega) (by omega) (by simpa using lp) (by simpa using lr) (by simpa using lo) hI'
      have hd : qs total sum (w.drop i) = total * w.getD i 0 / sum :: qs total sum (w.drop (i + 1)) := by rw [drop_cons w i 0 hi]; rfl
      rw [hd] at hlo ⊢
      simp only [isum] at hlo ⊢
      have hi' : (i : Int) < (w.length : Int) := by omega
      simp only [hi', decide_true, cond_true, hsc, Option.bind_some, lp, lr, lo, List.length_set]
      have hi0 : decide ((0 : Int) ≤ (i : Int)) = true := by simp
      simp only [hi0, Bool.and_self, cond_true]
      rw [hset _ _ lp, if_pos rfl, wi_id ((i : Int) + 1) (by omega) (by omega), wi_id (left - _) (by omega) (by omega)]
      have := nx (by omega) (by omega)
      rw [show left - (total * w.getD i 0 / sum + isum (qs total sum (w.drop (i + 1)))) = left - total * w.getD i 0 / sum - isum (qs total sum (w.drop (i + 1))) by omega]
      exact this
    · have hi' : ¬ (i : Int) < (w.length : Int) := by omega
      have hiw : i = w.length := by omega
      rw [(List.drop_eq_nil_of_le (by omega) : w.drop i = [])]
      simp only [hi', decide_false, cond_false, qs, List.map_nil, isum, Int.sub_zero, Option.some.injEq, Prod.mk.injEq, true_and]
      refine ⟨ext_getD (by simp [lp]) fun p hp => ?_, ext_getD (by simp [lr, rs]) fun p hp => ?_, ext_getD (by rw [lo, idn_length]) fun p hp => ?_⟩
      · rw [(hI p (by omega)).1]; exact (qs_getD total sum w p).symm
      · rw [(hI p (by omega)).2.1, rs_getD]
      · rw [(hI p (by omega)).2.2, idn_getD _ _ (by omega)]

theorem share_loop26_is (vs : List Int) (n : Nat) (hn : n ≤ 64) (hv : ∀ x, x ∈ vs → 0 ≤ x ∧ x < (n : Int)) (hnd : vs.Nodup) (hl : vs.length ≤ 64) : ∀ (k i : Nat) (parts : List Int), vs.length < i + k → i ≤ vs.length → parts.length = n → (∀ x, x ∈ vs.drop i → 0 ≤ parts.getD x.toNat 0 ∧ parts.getD x.toNat 0 ≤ 1125899906842624) →
    ∃ r, share_loop26 scale containsFunc sortStable k vs (vs.length : Int) (i : Int) parts = some r ∧ r.length = n ∧ ∀ p : Nat, r.getD p 0 = parts.getD p 0 + if ((p : Int) ∈ vs.drop i) then 1 else 0 := by
  intro k
  induction k with
  | zero => intro i p h hi; omega
  | succ k ih =>
    intro i parts h hi0 lp hb
    unfold share_loop26 share_loop26_step
    rw [Int.toNat_natCast]
    by_cases hi : i < vs.length
    · have hx := hv _ (getD_mem vs i 0 hi)
      have hnd2 : (vs.drop i).Nodup := hnd.sublist (List.drop_sublist i vs)
      rw [drop_cons vs i 0 hi] at hb hnd2 ⊢
      rw [inb _ _ hi]
      generalize List.getD vs i 0 = v at *
      obtain ⟨t, rfl⟩ := Int.eq_ofNat_of_zero_le hx.1
      have hvb := hb (t : Int) (by simp)
      rw [Int.toNat_natCast] at hvb ⊢
      rw [List.nodup_cons] at hnd2
      have hi' : (i : Int) < (vs.length : Int) := by omega
      rw [lp, inb t n (by omega), Nat.zero_add]
      simp only [hi', decide_true, cond_true]
      rw [wi_id ((i : Int) + 1) (by omega) (by omega), wi_id (parts.getD t 0 + 1) (by omega) (by omega)]
      have hset : ∀ p, (parts.set t (parts.getD t 0 + 1)).getD p 0 = if p = t then parts.getD t 0 + 1 else parts.getD p 0 := fun p => by
        rw [getD_set]
        by_cases hp : t = p
        · subst hp; rw [if_pos ⟨rfl, by omega⟩, if_pos rfl]
        · rw [if_neg (fun h => hp h.1), if_neg (fun h => hp h.symm)]
      obtain ⟨r, g1, g2, g3⟩ := ih (i + 1) (parts.set t (parts.getD t 0 + 1)) (by omega) (by omega) (by simpa using lp) (fun x hx' => by
        have h1 := hb x (by simp [hx'])
        rw [hset]
        by_cases hxt : x.toNat = t
        · exfalso
          have h2 := (hv x (List.mem_of_mem_drop hx')).1
          have : x = (t : Int) := by omega
          rw [this] at hx'
          exact hnd2.1 hx'
        · rw [if_neg hxt]; exact h1)
      refine ⟨r, g1, g2, fun p => ?_⟩
      rw [g3, hset]
      by_cases hp : p = t
      · subst hp
        rw [if_pos rfl, if_neg hnd2.1, if_pos (by simp)]; omega
      · rw [if_neg hp]
        have : ((p : Int) ∈ (t : Int) :: vs.drop (i + 1)) ↔ ((p : Int) ∈ vs.drop (i + 1)) := by
          rw [List.mem_cons]
          exact ⟨fun h => h.resolve_left (fun e => hp (by omega)), .inr⟩
        by_cases hm : (p : Int) ∈ vs.drop (i + 1)
        · rw [if_pos hm, if_pos (this.2 hm)]
        · rw [if_neg hm, if_neg (fun h => hm (this.1 h))]
    · have hi' : ¬ (i : Int) < (vs.length : Int) := by omega
      rw [(List.drop_eq_nil_of_le (by omega) : vs.drop i = [])]
      simp only [hi', decide_false, cond_false]
      exact ⟨parts, rfl, lp, fun p => by simp⟩

theorem isum_div (total sum : Int) : ∀ w : List Int, sum * isum (qs total sum w) + isum (rs total sum w) = total * isum w
  | [] => by simp [qs, rs, isum]
  | x :: w => by
    have ih := isum_div total sum w
    have e := Int.mul_ediv_add_emod (total * x) sum
    have h1 : isum (qs total sum (x :: w)) = total * x / sum + isum (qs total sum w) := rfl
    have h2 : isum (rs total sum (x :: w)) = total * x % sum + isum (rs total sum w) := rfl
    have h3 : isum (x :: w) = x + isum w := rfl
    rw [h1, h2, h3, Int.mul_add, Int.mul_add]
    omega

theorem isum_lt {l : List Int} {s : Int} (hs : 0 < s) (h : ∀ x, x ∈ l → 0 ≤ x ∧ x < s) : 0 ≤ isum l ∧ isum l ≤ (l.length : Int) * s := by
  induction l with
  | nil => simp [isum]
  | cons x l ih =>
    have := h x (by simp)
    have := ih (fun y hy => h y (by simp [hy]))
    simp only [isum, List.length_cons]
    rw [Int.natCast_add, Int.add_mul]
    omega

theorem idn_nodup (n : Nat) : (idn n).Nodup := by
  unfold idn
  rw [List.Nodup, List.pairwise_map]
  exact List.Pairwise.imp (fun h e => h (by omega)) List.nodup_range

theorem mem_idn {n : Nat} {x : Int} : x ∈ idn n ↔ 0 ≤ x ∧ x < (n : Int) := by
  unfold idn
  rw [List.mem_map]
  constructor
  · rintro ⟨i, hi, rfl⟩
    rw [List.mem_range] at hi; omega
  · rintro ⟨h1, h2⟩
    exact ⟨x.toNat, by rw [List.mem_range]; omega, by omega⟩

/-- What Share returns, if there is a division of something. -/
theorem share_ok (total : Int) (w : List Int) (hw : AllW w) (hn : w.length ≤ 64) (hsM : isum w ≤ 1125899906842624) (ht : 0 ≤ total) (hts : total ≤ isum w) (hpos : 0 < isum w)
    (hsort : ∃ d, sortStable (rs total (isum w) w, ()) (idn w.length) = some d ∧ Srt (rs total (isum w) w) d w.length) :
    ∃ (d parts : List Int) (left : Nat), Srt (rs total (isum w) w) d w.length ∧ left ≤ w.length ∧ (left : Int) = total - isum (qs total (isum w) w) ∧ (left : Int) * isum w = isum (rs total (isum w) w) ∧
      share total w = some (parts, true) ∧ parts.length = w.length ∧ ∀ p : Nat, parts.getD p 0 = total * w.getD p 0 / isum w + if ((p : Int) ∈ d.take left) then 1 else 0 := by
  obtain ⟨d, hd1, hd2⟩ := hsort
  have hW := isum_W hw
  have hdiv := isum_div total (isum w) w
  have hr := isum_lt (l := rs total (isum w) w) hpos (fun x hx => by
    obtain ⟨y, _, rfl⟩ := List.mem_map.1 hx
    exact ⟨Int.emod_nonneg _ (by omega), Int.emod_lt_of_pos _ hpos⟩)
  have hrl : (rs total (isum w) w).length = w.length := by simp [rs]
  rw [hrl] at hr
  have hleft : (total - isum (qs total (isum w) w)) * isum w = isum (rs total (isum w) w) := by
    rw [Int.sub_mul, Int.mul_comm (isum (qs total (isum w) w))]; omega
  have hl0 : 0 ≤ total - isum (qs total (isum w) w) := by
    rcases Int.lt_or_le (total - isum (qs total (isum w) w)) 0 with h | h
    · have := Int.mul_neg_of_neg_of_pos h hpos; omega
    · exact h
  have hl1 : total - isum (qs total (isum w) w) ≤ (w.length : Int) := by
    have : (total - isum (qs total (isum w) w)) * isum w ≤ (w.length : Int) * isum w := by omega
    exact Int.le_of_mul_le_mul_right this hpos
  obtain ⟨left, hleq⟩ := Int.eq_ofNat_of_zero_le hl0
  have hq0 : 0 ≤ isum (qs total (isum w) w) := isum_nonneg fun y hy => by
    obtain ⟨z, hz, rfl⟩ := List.mem_map.1 hy
    exact (q_le ht hts hpos (hw z hz).1).1
  have hdl := hd2.1
  have hdm : ∀ x, x ∈ d → 0 ≤ x ∧ x < (w.length : Int) := fun x hx => mem_idn.1 (hd2.2.1.mem_iff.1 hx)
  have hdn : d.Nodup := hd2.2.1.nodup_iff.2 (idn_nodup _)
  have htl : (d.take left).length = left := by rw [List.length_take]; omega
  obtain ⟨parts, p1, p2, p3⟩ := share_loop26_is (d.take left) w.length hn (fun x hx => hdm x (List.mem_of_mem_take hx)) (hdn.sublist (List.take_sublist _ _)) (by omega) FUEL 0 (qs total (isum w) w) (fuel_gt _ (by omega)) (by omega) (by simp [qs]) (fun x hx => by
    rw [qs_getD]
    by_cases hxx : x.toNat < w.length
    · have hx2 := hw _ (getD_mem w x.toNat 0 hxx)
      have := q_le ht hts hpos hx2.1; omega
    · rw [getD_far2 w x.toNat 0 (by omega), Int.mul_zero, Int.zero_ediv]; omega)
  refine ⟨d, parts, left, hd2, by omega, hleq.symm, by rw [← hleft, hleq], ?_, p2, fun p => by rw [p3, qs_getD, List.drop_zero]⟩
  unfold share share_body
  have hany : (w.any fun x => !okW x) = false := by
    rw [← Bool.not_eq_true, List.any_eq_true]
    rintro ⟨x, hx, hx2⟩
    have := hw x hx
    unfold okW at hx2
    rw [decide_eq_true this.1, decide_eq_true this.2] at hx2
    cases hx2
  rw [contains_eq w (by omega), hany, decide_eq_false (show ¬ (w.length : Int) > 64 by omega)]
  have l5 : share_loop5 scale containsFunc sortStable FUEL total w 0 w (w.length : Int) 0 = _ := share_loop5_is total w hw hn FUEL 0 0 (fuel_gt _ (by omega)) (by omega) (by omega) (by rw [List.drop_zero]; omega)
  simp only [Option.bind_some, cond_false, l5, List.drop_zero, Int.zero_add, sc_or]
  have g1 : (decide (isum w > 1125899906842624) || decide (total < 0) || decide (total > isum w)) = false := by
    simp only [Bool.or_eq_false_iff, decide_eq_false_iff_not]; omega
  have g2 : (isum w == 0) = false := by simp; omega
  rw [g1, cond_false, room4 (by omega) (by omega), cond_true, g2, cond_false, cond_true, cond_true, Int.toNat_natCast]
  have l18 : share_loop18 scale containsFunc sortStable FUEL total (isum w) total w (w.length : Int) 0 (List.replicate w.length 0) () (List.replicate w.length 0) (List.replicate w.length 0) = _ :=
    share_loop18_is total (isum w) w hw hn ht hts hpos hsM FUEL 0 total _ _ _ (fuel_gt _ (by omega)) (by omega) (by simp) (by simp) (by simp) (fun p hp => by omega) (by rw [List.drop_zero]; omega) (by omega)
  rw [l18]
  simp only [Option.bind_some, List.drop_zero]
  rw [hd1, hleq]
  simp only [Option.bind_some]
  have g3 : (decide ((0 : Int) ≤ (left : Int)) && decide ((left : Int) ≤ (d.length : Int))) = true := by simp; omega
  have hcast : ((0 + (left : Int).toNat - 0 : Nat) : Int) = ((d.take left).length : Int) := by rw [htl]; simp
  rw [g3, cond_true, hcast, Int.toNat_natCast, Nat.zero_add]
  have p1' : share_loop26 scale containsFunc sortStable FUEL (d.take left) ((d.take left).length : Int) 0 (qs total (isum w) w) = some parts := p1
  rw [p1']
  rfl

/-- Nothing to divide. -/
theorem share_zero (w : List Int) (hw : AllW w) (hn : w.length ≤ 64) (hz : isum w = 0) : share 0 w = some (List.replicate w.length 0, true) := by
  unfold share share_body
  have hany : (w.any fun x => !okW x) = false := by
    rw [← Bool.not_eq_true, List.any_eq_true]
    rintro ⟨x, hx, hx2⟩
    have := hw x hx
    unfold okW at hx2
    rw [decide_eq_true this.1, decide_eq_true this.2] at hx2
    cases hx2
  rw [contains_eq w (by omega), hany, decide_eq_false (show ¬ (w.length : Int) > 64 by omega)]
  have l5 : share_loop5 scale containsFunc sortStable FUEL 0 w 0 w (w.length : Int) 0 = _ := share_loop5_is 0 w hw hn FUEL 0 0 (fuel_gt _ (by omega)) (by omega) (by omega) (by rw [List.drop_zero]; omega)
  simp only [Option.bind_some, cond_false, l5, List.drop_zero, Int.zero_add, sc_or, hz]
  rw [room4 (by omega) (by omega), Int.toNat_natCast]
  rfl
end Go.Lift.S17
