import Derived.Test.YtbdbjamebjbhnaaPE38
set_option linter.all false
/- What the examined day says. -/
set_option linter.unusedSimpArgs false
set_option linter.unusedVariables false
namespace Go.Lift.S38
open Go Go.Lift Go.Lift.Ar Go.Lift.Gr

noncomputable def dv (b : t_api_Basin.den) (ro : List t_api_Right.den) (s : List Int) (gr : List t_api_Point.den) : t_call_day.den := (b, ro, reL b ro, goL ro gr, lfL b (fw b ro s gr ro.length), ())

theorem reL_getD (b : t_api_Basin.den) (ro : List t_api_Right.den) (i : Nat) (h : i < ro.length) (d : List Int) : (reL b ro).getD i d = rR b ro i := getD_map_range _ _ _ _ h
theorem reL_length (b : t_api_Basin.den) (ro : List t_api_Right.den) : (reL b ro).length = ro.length := by simp [reL]
theorem goL_getD (ro : List t_api_Right.den) (gr : List t_api_Point.den) (i : Nat) (h : i < ro.length) : (goL ro gr).getD i 0 = gotF gr i := getD_map_range _ _ _ _ h
theorem goL_length (ro : List t_api_Right.den) (gr : List t_api_Point.den) : (goL ro gr).length = ro.length := by simp [goL]

theorem dec_isEmpty (l : List Int) : decide ((l.length : Int) > 0) = !l.isEmpty := by
  cases l with
  | nil => rfl
  | cons x l => simp

theorem short_is (b : t_api_Basin.den) (ro : List t_api_Right.den) (s : List Int) (gr : List t_api_Point.den) (i : Nat) (hi : i < ro.length) : short (dv b ro s gr) (i : Int) (gr.length : Int) = some (isS b ro gr i) := by
  unfold short short_body isS
  show (Option.bind (bif decide ((i : Int) < (gr.length : Int)) then bif decide (0 ≤ (i : Int)) && decide ((i : Int) < ((reL b ro).length : Int)) then bif bif decide ((i : Int) < (gr.length : Int)) then decide (((List.getD (reL b ro) (Int.toNat (i : Int)) (nilOf Int)).length : Int) > 0) else false then bif decide (0 ≤ (i : Int)) && decide ((i : Int) < ((goL ro gr).length : Int)) then bif decide (0 ≤ (i : Int)) && decide ((i : Int) < (ro.length : Int)) then some (bif bif decide ((i : Int) < (gr.length : Int)) then decide (((List.getD (reL b ro) (Int.toNat (i : Int)) (nilOf Int)).length : Int) > 0) else false then decide (List.getD (goL ro gr) (Int.toNat (i : Int)) 0 < rtR (List.getD ro (Int.toNat (i : Int)) (Ty.zero t_api_Right))) else false) else none else none else bif bif decide ((i : Int) < (gr.length : Int)) then decide (((List.getD (reL b ro) (Int.toNat (i : Int)) (nilOf Int)).length : Int) > 0) else false then none else some false else none else bif decide ((i : Int) < (gr.length : Int)) then none else some false) fun r4 => some r4) = _
  rw [bind_eta, Int.toNat_natCast, reL_length, goL_length, inb _ _ hi, reL_getD _ _ _ hi, goL_getD _ _ _ hi, dec_isEmpty]
  simp only [cond_true]
  show _ = some (_ && (_ && decide (gotF gr i < rtR (ro.getD i (Ty.zero t_api_Right)))))
  generalize decide (gotF gr i < rtR (ro.getD i (Ty.zero t_api_Right))) = c3
  generalize (!(rR b ro i).isEmpty) = c2
  by_cases h1 : i < gr.length
  · rw [decide_eq_true (show (i : Int) < (gr.length : Int) by omega), decide_eq_true h1]
    cases c2 <;> cases c3 <;> rfl
  · rw [decide_eq_false (show ¬ (i : Int) < (gr.length : Int) by omega), decide_eq_false h1]
    rfl

def toI (l : List Nat) : List Int := l.map fun k : Nat => (k : Int)

theorem later_loop_is (b : t_api_Basin.den) (ro : List t_api_Right.den) (s : List Int) (gr : List t_api_Point.den) (hro : ro.length ≤ 64) : ∀ (k j : Nat) (out : List Int), ro.length < j + k → j ≤ ro.length → out.length ≤ j →
    later_loop3 k (j : Int) (dv b ro s gr) out = some (out ++ toI ((List.range' j (ro.length - j)).filter fun k => decide (0 < gotF gr k))) := by
  intro k
  induction k with
  | zero => intro j out h hj; omega
  | succ k ih =>
    intro j out h hj0 ho
    unfold later_loop3 later_loop3_step
    show (bif decide ((j : Int) < (ro.length : Int)) then bif decide (0 ≤ (j : Int)) && decide ((j : Int) < ((goL ro gr).length : Int)) then bif decide (List.getD (goL ro gr) (Int.toNat (j : Int)) 0 > 0) then bif decide (((List.length (out ++ List.take (List.length ((j : Int) :: nilOf (Int))) (List.drop ((0 : Nat)) ((j : Int) :: nilOf (Int))))) : Int) * (((8 : Nat)) : Int) ≤ 140737488355328) then later_loop3 k (wi ((j : Int) + 1)) (dv b ro s gr) (out ++ List.take (List.length ((j : Int) :: nilOf (Int))) (List.drop ((0 : Nat)) ((j : Int) :: nilOf (Int)))) else none else later_loop3 k (wi ((j : Int) + 1)) (dv b ro s gr) out else none else some out) = _
    by_cases hj : j < ro.length
    · rw [range'_step j _ hj, List.filter_cons, goL_length, inb _ _ hj, decide_eq_true (show (j : Int) < (ro.length : Int) by omega), Int.toNat_natCast, goL_getD _ _ _ hj]
      simp only [cond_true]
      rw [app1, roomD (by rw [List.length_append]; simp; omega), wi_id ((j : Int) + 1) (by omega) (by omega)]
      by_cases hg : 0 < gotF gr j
      · rw [decide_eq_true (show gotF gr j > 0 from hg)]
        simp only [cond_true, if_true]
        have := ih (j + 1) (out ++ [(j : Int)]) (by omega) (by omega) (by rw [List.length_append]; simp; omega)
        rw [List.append_assoc] at this
        exact this
      · rw [decide_eq_false (show ¬ gotF gr j > 0 from hg)]
        simp only [cond_false]
        exact ih (j + 1) out (by omega) (by omega) (by omega)
    · rw [decide_eq_false (show ¬ (j : Int) < (ro.length : Int) by omega), cond_false, range'_end j _ hj]
      simp [toI]

theorem later_is (b : t_api_Basin.den) (ro : List t_api_Right.den) (s : List Int) (gr : List t_api_Point.den) (hro : ro.length ≤ 64) (i : Nat) (hi : i < ro.length) : later (dv b ro s gr) (i : Int) = some (toI (laterN gr ro.length i)) := by
  unfold later later_body
  rw [bind_eta, wi_id ((i : Int) + 1) (by omega) (by omega)]
  exact later_loop_is b ro s gr hro FUEL (i + 1) [] (by have := fuel_gt ro.length (by omega); omega) (by omega) (by simp)

theorem meets_is (b : t_api_Basin.den) (ro : List t_api_Right.den) (s : List Int) (gr : List t_api_Point.den) (hn : nP b ≤ 16) (j : Nat) (hj : j < ro.length) (q : Int) : meets (j : Int) (dv b ro s gr) q = some (decide (q ∈ rR b ro j)) := by
  unfold meets meets_body
  rw [bind_eta]
  show (bif decide (0 ≤ (j : Int)) && decide ((j : Int) < ((reL b ro).length : Int)) then contains (List.getD (reL b ro) (Int.toNat (j : Int)) (nilOf Int)) q else none) = _
  obtain ⟨_, _, r3, _⟩ := rch_is b hn (plR (ro.getD j (Ty.zero t_api_Right)))
  have hlen : (rR b ro j).length ≤ nP b := Good.len r3
  rw [reL_length, inb _ _ hj, Int.toNat_natCast, reL_getD _ _ _ hj, contains_is _ _ (by omega)]
  rfl

theorem indexM_loop_is (b : t_api_Basin.den) (ro : List t_api_Right.den) (s : List Int) (gr : List t_api_Point.den) (hn : nP b ≤ 16) (q : Int) (l : List Nat) (hl : ∀ k, k ∈ l → k < ro.length) (hll : l.length ≤ 64) : ∀ (k i : Nat), l.length < i + k → i ≤ l.length →
    (indexM_loop2 meets k (toI l) (dv b ro s gr, q, ()) (l.length : Int) (i : Int) = some (.inl ()) ∧ ¬ ∃ x, x ∈ l.drop i ∧ q ∈ rR b ro x) ∨ ∃ j : Nat, indexM_loop2 meets k (toI l) (dv b ro s gr, q, ()) (l.length : Int) (i : Int) = some (.inr (j : Int)) ∧ ∃ x, x ∈ l.drop i ∧ q ∈ rR b ro x := by
  intro k
  induction k with
  | zero => intro i h hi; omega
  | succ k ih =>
    intro i h hi0
    unfold indexM_loop2 indexM_loop2_step
    have el : (toI l).length = l.length := by simp [toI]
    by_cases hi : i < l.length
    · have eg : (toI l).getD i 0 = ((l.getD i 0 : Nat) : Int) := by
        unfold toI
        rw [List.getD_eq_getElem?_getD, List.getD_eq_getElem?_getD, List.getElem?_map, List.getElem?_eq_getElem hi]; rfl
      have hm := hl _ (getD_mem l i 0 hi)
      rw [drop_cons l i 0 hi, el, inb _ _ hi, decide_eq_true (show (i : Int) < (l.length : Int) by omega), Int.toNat_natCast, eg, meets_is b ro s gr hn _ hm]
      simp only [cond_true, Option.bind_some]
      rw [wi_id ((i : Int) + 1) (by omega) (by omega)]
      by_cases hq : q ∈ rR b ro (l.getD i 0)
      · rw [decide_eq_true hq, cond_true]
        exact .inr ⟨i, rfl, _, by simp, hq⟩
      · rw [decide_eq_false hq, cond_false]
        rcases ih (i + 1) (by omega) (by omega) with ⟨g1, g2⟩ | ⟨j, g1, x, g2, g3⟩
        · refine .inl ⟨g1, fun ⟨x, h1, h2⟩ => ?_⟩
          rcases List.mem_cons.1 h1 with rfl | h1
          · exact hq h2
          · exact g2 ⟨x, h1, h2⟩
        · exact .inr ⟨j, g1, x, by simp [g2], g3⟩
    · rw [decide_eq_false (show ¬ (i : Int) < (l.length : Int) by omega), cond_false, List.drop_eq_nil_of_le (by omega)]
      exact .inl ⟨rfl, fun ⟨x, h1, _⟩ => by cases h1⟩

theorem containsM_is (b : t_api_Basin.den) (ro : List t_api_Right.den) (s : List Int) (gr : List t_api_Point.den) (hn : nP b ≤ 16) (q : Int) (l : List Nat) (hl : ∀ k, k ∈ l → k < ro.length) (hll : l.length ≤ 64) : ∃ r, containsM (toI l) (dv b ro s gr, q, ()) = some r ∧ (r = true ↔ ∃ x, x ∈ l ∧ q ∈ rR b ro x) := by
  unfold containsM containsM_body indexM indexM_body
  have el : (toI l).length = l.length := by simp [toI]
  rw [el]
  rcases indexM_loop_is b ro s gr hn q l hl hll FUEL 0 (fuel_gt _ (by omega)) (by omega) with ⟨g1, g2⟩ | ⟨j, g1, g2⟩
  · have g1' : indexM_loop2 meets FUEL (toI l) (dv b ro s gr, q, ()) (l.length : Int) 0 = _ := g1
    rw [g1']
    rw [List.drop_zero] at g2
    exact ⟨false, rfl, fun h => (by cases h), fun h => absurd h g2⟩
  · have g1' : indexM_loop2 meets FUEL (toI l) (dv b ro s gr, q, ()) (l.length : Int) 0 = _ := g1
    rw [g1']
    rw [List.drop_zero] at g2
    simp only [Option.bind_some, Sum.elim]
    exact ⟨_, rfl, fun _ => g2, fun _ => by simp⟩

theorem laterN_len (gr : List t_api_Point.den) (m i : Nat) : (laterN gr m i).length ≤ m := by
  unfold laterN
  have := List.length_filter_le (fun k => decide (0 < gotF gr k)) (List.range' (i + 1) (m - (i + 1)))
  rw [List.length_range'] at this
  omega

theorem halts_is (b : t_api_Basin.den) (ro : List t_api_Right.den) (s : List Int) (gr : List t_api_Point.den) (hn : nP b ≤ 16) (hro : ro.length ≤ 64) (i : Nat) (q : Int) (hq : 0 ≤ q ∧ q < (nP b : Int)) :
    ∃ r, halts q (dv b ro s gr) (toI (laterN gr ro.length i)) = some r ∧ (r = true ↔ Halt b ro s gr i q) := by
  unfold halts halts_body
  show ∃ r, (bif decide (0 ≤ q) && decide (q < ((lfL b (fw b ro s gr ro.length)).length : Int)) then Option.bind (bif decide (List.getD (lfL b (fw b ro s gr ro.length)) (Int.toNat q) 0 ≤ 0) then Option.bind (containsM (toI (laterN gr ro.length i)) (dv b ro s gr, q, ())) fun r8 => some !r8 else some false) fun r7 => some r7 else none) = some r ∧ _
  have e : (decide (0 ≤ q) && decide (q < (nP b : Int))) = true := by simp; omega
  rw [bind_eta, lfL_length, e, lfL_getD _ _ _ (by omega), Int.toNat_of_nonneg hq.1]
  simp only [cond_true]
  obtain ⟨r, g1, g2⟩ := containsM_is b ro s gr hn q (laterN gr ro.length i) (fun k hk => (mem_later.1 hk).2.1) (Nat.le_trans (laterN_len _ _ _) hro)
  by_cases h0 : fw b ro s gr ro.length q ≤ 0
  · rw [decide_eq_true h0, cond_true, g1]
    refine ⟨!r, rfl, ?_⟩
    have e2 : ((!r) = true) ↔ ¬ (r = true) := by cases r <;> simp
    rw [e2, g2]
    constructor
    · intro h
      exact ⟨h0, fun k h1 h2 h3 h4 => h ⟨k, mem_later.2 ⟨h1, h2, h4⟩, h3⟩⟩
    · rintro h ⟨x, h1, h2⟩
      obtain ⟨a, b', c⟩ := mem_later.1 h1
      exact h.2 x a b' h2 c
  · rw [decide_eq_false h0, cond_false]
    exact ⟨false, rfl, fun h => by (cases h), fun h => absurd h.1 h0⟩

theorem indexH_loop_is (b : t_api_Basin.den) (ro : List t_api_Right.den) (s : List Int) (gr : List t_api_Point.den) (hn : nP b ≤ 16) (hro : ro.length ≤ 64) (i : Nat) (l : List Int) (hl : Good (nP b) l) : ∀ (k x : Nat), l.length < x + k → x ≤ l.length → (∀ j, j < x → ¬ Halt b ro s gr i (l.getD j 0)) →
    (indexH_loop2 halts k l (dv b ro s gr, toI (laterN gr ro.length i), ()) (l.length : Int) (x : Int) = some (.inl ()) ∧ ∀ j, j < l.length → ¬ Halt b ro s gr i (l.getD j 0)) ∨
    ∃ j : Nat, indexH_loop2 halts k l (dv b ro s gr, toI (laterN gr ro.length i), ()) (l.length : Int) (x : Int) = some (.inr (j : Int)) ∧ j < l.length ∧ Halt b ro s gr i (l.getD j 0) ∧ ∀ j', j' < j → ¬ Halt b ro s gr i (l.getD j' 0) := by
  have hll := hl.len
  intro k
  induction k with
  | zero => intro x h hx; omega
  | succ k ih =>
    intro x h hx0 hno
    unfold indexH_loop2 indexH_loop2_step
    by_cases hx : x < l.length
    · have hb := hl.2 _ (getD_mem l x 0 hx)
      rw [inb _ _ hx, decide_eq_true (show (x : Int) < (l.length : Int) by omega), Int.toNat_natCast]
      simp only [cond_true]
      obtain ⟨r, g1, g2⟩ := halts_is b ro s gr hn hro i _ hb
      rw [g1]
      simp only [Option.bind_some]
      rw [wi_id ((x : Int) + 1) (by omega) (by omega)]
      cases r
      · have hno' : ¬ Halt b ro s gr i (l.getD x 0) := fun hh => by have := g2.2 hh; cases this
        simp only [cond_false]
        exact ih (x + 1) (by omega) (by omega) (fun j hj => by
          by_cases e : j = x
          · subst e; exact hno'
          · exact hno j (by omega))
      · exact .inr ⟨x, rfl, hx, g2.1 rfl, hno⟩
    · rw [decide_eq_false (show ¬ (x : Int) < (l.length : Int) by omega), cond_false]
      exact .inl ⟨rfl, fun j hj => hno j (by omega)⟩

theorem dstop_ex (b : t_api_Basin.den) (ro : List t_api_Right.den) (s : List Int) (gr : List t_api_Point.den) (hn : nP b ≤ 16) (hro : ro.length ≤ 64) (i : Nat) (hi : i < ro.length) : ∃ r, dstop (dv b ro s gr) (i : Int) = some r ∧ IsStop b ro s gr i r := by
  unfold dstop dstop_body
  rw [later_is b ro s gr hro i hi]
  simp only [Option.bind_some]
  obtain ⟨_, _, r3, _⟩ := rch_is b hn (plR (ro.getD i (Ty.zero t_api_Right)))
  have r3' : Good (nP b) (rR b ro i) := r3
  have hlen := r3'.len
  show ∃ r, (bif decide (0 ≤ (i : Int)) && decide ((i : Int) < ((reL b ro).length : Int)) then Option.bind (indexH (List.getD (reL b ro) (Int.toNat (i : Int)) (nilOf (Int))) (dv b ro s gr, toI (laterN gr ro.length i), ())) fun r8 => bif decide (r8 < 0) then some (-1) else bif decide (0 ≤ (i : Int)) && decide ((i : Int) < ((reL b ro).length : Int)) then bif decide (0 ≤ r8) && decide (r8 < ((List.length (List.getD (reL b ro) (Int.toNat (i : Int)) (nilOf (Int)))) : Int)) then some (List.getD (List.getD (reL b ro) (Int.toNat (i : Int)) (nilOf (Int))) (Int.toNat r8) 0) else none else none else none) = some r ∧ _
  rw [reL_length, inb _ _ hi, Int.toNat_natCast, reL_getD _ _ _ hi]
  simp only [cond_true]
  unfold indexH indexH_body
  rcases indexH_loop_is b ro s gr hn hro i (rR b ro i) r3' FUEL 0 (fuel_gt _ (by omega)) (by omega) (fun j hj => by omega) with ⟨g1, g2⟩ | ⟨j, g1, g2, g3, g4⟩
  · have g1' : indexH_loop2 halts FUEL (rR b ro i) (dv b ro s gr, toI (laterN gr ro.length i), ()) ((rR b ro i).length : Int) 0 = _ := g1
    rw [g1']
    refine ⟨-1, rfl, .inl ⟨rfl, fun q hq => ?_⟩⟩
    obtain ⟨j, hj, e⟩ := List.getElem_of_mem hq
    have := g2 j hj
    rw [List.getD_eq_getElem?_getD, List.getElem?_eq_getElem hj] at this
    rw [← e]
    exact this
  · have g1' : indexH_loop2 halts FUEL (rR b ro i) (dv b ro s gr, toI (laterN gr ro.length i), ()) ((rR b ro i).length : Int) 0 = _ := g1
    rw [g1']
    simp only [Option.bind_some, Sum.elim]
    rw [decide_eq_false (show ¬ (j : Int) < 0 by omega), inb _ _ g2, Int.toNat_natCast]
    exact ⟨_, rfl, .inr ⟨j, g2, rfl, g3, g4⟩⟩

theorem dstop_is (b : t_api_Basin.den) (ro : List t_api_Right.den) (s : List Int) (gr : List t_api_Point.den) (hs : ∀ x, x ∈ s → InR x) (hn : nP b ≤ 16) (hro : ro.length ≤ 64) (i : Nat) (hi : i < ro.length) : dstop (dv b ro s gr) (i : Int) = some (stopV b ro s gr i) := by
  obtain ⟨r, h1, h2⟩ := dstop_ex b ro s gr hn hro i hi
  rw [h1, h2.uniq (stopV_is b ro s gr i hs hn hro hi).2]

theorem stopAt_is (b : t_api_Basin.den) (ro : List t_api_Right.den) (s : List Int) (gr : List t_api_Point.den) (hs : ∀ x, x ∈ s → InR x) (hn : nP b ≤ 16) (hro : ro.length ≤ 64) (i : Int) : stopAt b ro s gr i = stop_r b ro s gr i ∧ ∃ r, stop_r b ro s gr i = some r := by
  by_cases hi : 0 ≤ i ∧ i < (ro.length : Int)
  · obtain ⟨j, rfl⟩ := Int.eq_ofNat_of_zero_le hi.1
    have hj : j < ro.length := by omega
    have h1 := (stopV_is b ro s gr j hs hn hro hj).1
    refine ⟨?_, _, h1⟩
    rw [h1]
    unfold stopAt stopAt_body
    rw [decide_eq_false (show ¬ (j : Int) < 0 by omega), decide_eq_false (show ¬ (j : Int) ≥ (ro.length : Int) by omega), of_is b ro s gr hs hn hro]
    have h2 := dstop_is b ro s gr hs hn hro j hj
    have h2' : dstop (b, ro, reL b ro, goL ro gr, lfL b (fw b ro s gr ro.length), ()) (j : Int) = _ := h2
    simp only [cond_false, Option.bind_some]
    rw [h2']
    rfl
  · have h1 := stop_r_out b ro s gr i hi
    refine ⟨?_, _, h1⟩
    rw [h1]
    unfold stopAt stopAt_body
    simp only [sc_or, Option.bind_some]
    have : (decide (i < 0) || decide (i ≥ (ro.length : Int))) = true := by
      simp only [Bool.or_eq_true, decide_eq_true_eq]; omega
    rw [this]; rfl
end Go.Lift.S38
