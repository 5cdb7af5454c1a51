import Derived.Test.YtbdbjamebjbhnaaPN38
set_option linter.all false
/- The statements CallOnly and CallNeeds. -/
set_option linter.unusedSimpArgs false
set_option linter.unusedVariables false
namespace Go.Lift.S38
open Go Go.Lift Go.Lift.Ar Go.Lift.Gr

theorem exL_len2 (b : t_api_Basin.den) (ro : List t_api_Right.den) (s : List Int) (gr : List t_api_Point.den) (hro : ro.length ≤ 14) : (exL b ro s gr).length ≤ 196 := by
  have key : ∀ l : List Nat, (l.flatMap (exF b ro s gr)).length ≤ l.length * 14 := by
    intro l
    induction l with
    | nil => simp
    | cons x l ih =>
      rw [List.flatMap_cons, List.length_append, List.length_cons]
      have := exF_len b ro s gr x
      omega
  have := key (List.range ro.length)
  rw [List.length_range] at this
  unfold exL
  omega

theorem check_day (b : t_api_Basin.den) (ro : List t_api_Right.den) (s : List Int) (ex : List t_api_Point.den) (hs : ∀ x, x ∈ s → InR x) (hn : nP b ≤ 16) (hro : ro.length ≤ 64) (hS : sumP s 16 ≤ 1125899906842624) (hl : ex.length ≤ 9223372036854775807) (hex : ∀ x, x ∈ exL b ro s (dayL b ro s) → x ∈ ex) : check b ro s (dayL b ro s) ex = some true := by
  obtain ⟨r, h1, h2⟩ := check_is b ro s (dayL b ro s) ex hs hn hro hl
  rw [h1, h2.2 (day_chk b ro s ex hs hn hro hS hex)]

theorem only_true (b : t_api_Basin.den) (ro : List t_api_Right.den) (s : List Int) (gr ex : List t_api_Point.den) (hs : ∀ x, x ∈ s → InR x) (hex : ex.length * 16 ≤ 140737488351232) : only b ro s gr ex = some true := by
  unfold only only_body
  obtain ⟨f, f1, f2⟩ := few_is b ro gr
  obtain ⟨m, m1, m2⟩ := modest_is s
  rw [small_true, f1, m1]
  simp only [Option.bind_some, sc_or]
  cases f
  · rfl
  · cases m
    · rfl
    · obtain ⟨hn, hro, hgr⟩ := f2 rfl
      have hS := m2 rfl
      simp only [Bool.not_true, Bool.or_self, cond_false]
      have hd : day b ro s = some (dayL b ro s, _) := day_is b ro s hs hn (by omega)
      have hx1 := exL_len2 b ro s (dayL b ro s) hro
      have hx2 := exL_len2 b ro s gr hro
      have e0 : ∀ l : List t_api_Point.den, nilOf (Ty.den t_api_Excuse) ++ l = l := fun _ => rfl
      rw [hd]
      simp only [Option.bind_some]
      rw [allEx_is b ro s (dayL b ro s) hs hn (by omega)]
      simp only [Option.bind_some]
      rw [check_day b ro s _ hs hn (by omega) hS (by omega) (fun x hx => hx)]
      simp only [Option.bind_some, Bool.not_true, cond_false]
      rw [e0, roomD (by omega), cond_true, allEx_is b ro s gr hs hn (by omega)]
      simp only [Option.bind_some]
      rw [roomD (by rw [List.length_append]; omega), cond_true]
      obtain ⟨c1, g1, g2⟩ := check_is b ro s gr (ex ++ exL b ro s gr) hs hn (by omega) (by rw [List.length_append]; omega)
      obtain ⟨c2, g3, g4⟩ := check_is b ro s gr ex hs hn (by omega) (by omega)
      rw [g1, g3]
      simp only [Option.bind_some]
      have key : ∀ c : Bool, (c = true → gr = dayL b ro s) → (bif c then Option.bind (bif true then Option.bind (sameG gr (dayL b ro s)) fun r51 => some r51 else some false) fun r50 => some r50 else some true) = some true := by
        intro c hc
        cases c
        · rfl
        · rw [← hc rfl, cond_true, cond_true, sameG_refl gr (by omega)]; rfl
      cases c1
      · exact key c2 (fun h => ChkP.only hs hn (by omega) (g4.1 h))
      · exact key true (fun _ => ChkP.only hs hn (by omega) (g2.1 rfl))

/-! ### CallNeeds -/

/-- All Ids are different. -/
def Diff (ro : List t_api_Right.den) (n : Nat) : Prop := ∀ j k, j < k → k < n → idR (ro.getD j (Ty.zero t_api_Right)) ≠ idR (ro.getD k (Ty.zero t_api_Right))

theorem needs10_is (ro : List t_api_Right.den) (s : List Int) (more : List t_api_Point.den) (i : Int) (head : Bool) (b : t_api_Basin.den) (k : Nat) (hk : k < ro.length) (hro : ro.length ≤ 64) (sm : Option Bool) : ∀ (f j : Nat), k < j + f → j ≤ k →
    (needs_loop10 day modest few allEx check sm f ro s more i head (k : Int) (j : Int) b = some (.inl (ro, s, more, i, head, (k : Int), b)) ∧ ∀ x, j ≤ x → x < k → idR (ro.getD x (Ty.zero t_api_Right)) ≠ idR (ro.getD k (Ty.zero t_api_Right))) ∨
    needs_loop10 day modest few allEx check sm f ro s more i head (k : Int) (j : Int) b = some (.inr head) := by
  intro f
  induction f with
  | zero => intro j h hj; omega
  | succ f ih =>
    intro j h hj0
    unfold needs_loop10 needs_loop10_step
    by_cases hj : j < k
    · rw [inb j ro.length (by omega), inb k ro.length hk, decide_eq_true (show (j : Int) < (k : Int) by omega), Int.toNat_natCast, Int.toNat_natCast]
      simp only [cond_true]
      by_cases he : (List.getD ro j (Ty.zero t_api_Right)).1 = (List.getD ro k (Ty.zero t_api_Right)).1
      · rw [beq_iff_eq.2 he, cond_true]
        exact .inr rfl
      · rw [beq_eq_false_iff_ne.2 he, cond_false, wi_id ((j : Int) + 1) (by omega) (by omega)]
        rcases ih (j + 1) (by omega) (by omega) with ⟨g1, g2⟩ | g1
        · refine .inl ⟨g1, fun x h1 h2 => ?_⟩
          by_cases e : x = j
          · subst e; exact he
          · exact g2 x (by omega) h2
        · exact .inr g1
    · rw [decide_eq_false (show ¬ (j : Int) < (k : Int) by omega), cond_false]
      exact .inl ⟨rfl, fun x h1 h2 => by omega⟩

theorem needs7_is (ro : List t_api_Right.den) (s : List Int) (more : List t_api_Point.den) (i : Int) (head : Bool) (b : t_api_Basin.den) (hro : ro.length ≤ 64) (sm : Option Bool) : ∀ (f k : Nat), ro.length < k + f → k ≤ ro.length → Diff ro k →
    (needs_loop7 day modest few allEx check sm f ro s more i head (k : Int) b = some (.inl (ro, s, more, i, head, b)) ∧ Diff ro ro.length) ∨
    needs_loop7 day modest few allEx check sm f ro s more i head (k : Int) b = some (.inr head) := by
  intro f
  induction f with
  | zero => intro k h hk; omega
  | succ f ih =>
    intro k h hk0 hD
    unfold needs_loop7 needs_loop7_step
    by_cases hk : k < ro.length
    · rw [decide_eq_true (show (k : Int) < (ro.length : Int) by omega), cond_true]
      rcases needs10_is ro s more i head b k hk hro sm FUEL 0 (fuel_gt _ (by omega)) (by omega) with ⟨g1, g2⟩ | g1
      · have g1' : needs_loop10 day modest few allEx check sm FUEL ro s more i head (k : Int) 0 b = _ := g1
        rw [g1']
        simp only [Option.bind_some, Sum.elim]
        rw [wi_id ((k : Int) + 1) (by omega) (by omega)]
        exact ih (k + 1) (by omega) (by omega) (fun j x h1 h2 => by
          by_cases e : x = k
          · subst e; exact g2 j (by omega) h1
          · exact hD j x h1 (by omega))
      · have g1' : needs_loop10 day modest few allEx check sm FUEL ro s more i head (k : Int) 0 b = _ := g1
        rw [g1']
        exact .inr rfl
    · have : k = ro.length := by omega
      subst this
      rw [decide_eq_false (show ¬ (ro.length : Int) < (ro.length : Int) by omega), cond_false]
      exact .inl ⟨rfl, hD⟩

theorem exL_nodup (b : t_api_Basin.den) (ro : List t_api_Right.den) (s : List Int) (gr : List t_api_Point.den) (hD : Diff ro ro.length) : (exL b ro s gr).Nodup := by
  have hne : ∀ j k, j < ro.length → k < ro.length → j ≠ k → idR (ro.getD j (Ty.zero t_api_Right)) ≠ idR (ro.getD k (Ty.zero t_api_Right)) := fun j k h1 h2 h3 => by
    rcases Nat.lt_or_gt_of_ne h3 with h | h
    · exact hD j k h h2
    · exact fun e => hD k j h h1 e.symm
  unfold exL List.Nodup
  rw [List.pairwise_flatMap]
  refine ⟨fun i hi => ?_, ?_⟩
  · unfold exF
    cases (isS b ro gr i && decide (0 ≤ stopV b ro s gr i))
    · exact List.Pairwise.nil
    · rw [cond_true, List.pairwise_map]
      have hnd : (laterN gr ro.length i).Nodup := List.Pairwise.filter _ (List.nodup_range' (step := 1) (by omega))
      refine List.Pairwise.imp_of_mem (fun {x y} hx hy hxy e => ?_) hnd
      have h1 := (mem_later.1 hx).2.1
      have h2 := (mem_later.1 hy).2.1
      exact hne x y h1 h2 hxy (congrArg (fun p => p.2.1) e)
  · refine List.Pairwise.imp_of_mem (fun {i j} hi hj hij x hx y hy e => ?_) (List.nodup_range (n := ro.length))
    have h1 := List.mem_range.1 hi
    have h2 := List.mem_range.1 hj
    have fx : ∀ (i : Nat) (x : t_api_Point.den), x ∈ exF b ro s gr i → x.1 = idR (ro.getD i (Ty.zero t_api_Right)) := fun i x hx => by
      unfold exF at hx
      cases hc : (isS b ro gr i && decide (0 ≤ stopV b ro s gr i))
      · rw [hc] at hx; simp at hx
      · rw [hc, cond_true] at hx
        obtain ⟨k, _, rfl⟩ := List.mem_map.1 hx
        rfl
    have e1 := fx i x hx
    have e2 := fx j y hy
    rw [e] at e1
    exact hne i j h1 h2 hij (e1.symm.trans e2)

theorem needs_true (b : t_api_Basin.den) (ro : List t_api_Right.den) (s : List Int) (more : List t_api_Point.den) (i : Int) (hs : ∀ x, x ∈ s → InR x) (hex : more.length * 16 ≤ 140737488351232) : needs b ro s more i = some true := by
  unfold needs needs_body
  obtain ⟨f, f1, f2⟩ := few_is b ro (nilOf (Ty.den t_api_Grant))
  obtain ⟨m, m1, m2⟩ := modest_is s
  rw [small_true, f1, m1]
  simp only [Option.bind_some, sc_or]
  cases f
  · rfl
  · cases m
    · rfl
    · obtain ⟨hn, hro, _⟩ := f2 rfl
      have hS := m2 rfl
      simp only [Bool.not_true, Bool.or_self, cond_false]
      rcases needs7_is ro s more i true b (by omega) (some true) FUEL 0 (fuel_gt _ (by omega)) (by omega) (fun j k h1 h2 => by omega) with ⟨g1, hD⟩ | g1
      · have g1' : needs_loop7 day modest few allEx check (some true) FUEL ro s more i true 0 b = _ := g1
        rw [g1']
        simp only [Option.bind_some, Sum.elim]
        have hd : day b ro s = some (dayL b ro s, _) := day_is b ro s hs hn (by omega)
        have hx1 := exL_len2 b ro s (dayL b ro s) hro
        have e0 : ∀ l : List t_api_Point.den, nilOf (Ty.den t_api_Excuse) ++ l = l := fun _ => rfl
        rw [hd]
        simp only [Option.bind_some]
        rw [allEx_is b ro s (dayL b ro s) hs hn (by omega)]
        simp only [Option.bind_some]
        rw [e0, e0, roomD (by omega), cond_true, roomD (by rw [List.length_append]; omega), cond_true, check_day b ro s _ hs hn (by omega) hS (by rw [List.length_append]; omega) (fun x hx => List.mem_append_right _ hx)]
        simp only [Option.bind_some, Bool.not_true, cond_false]
        have hnd := exL_nodup b ro s (dayL b ro s) hD
        have hmem : ∀ x, x ∈ exL b ro s (dayL b ro s) → x ∈ exL b ro s (dayL b ro s) := fun _ h => h
        generalize hX : exL b ro s (dayL b ro s) = X at *
        by_cases hi : 0 ≤ i ∧ i < (X.length : Int)
        · obtain ⟨j, rfl⟩ := Int.eq_ofNat_of_zero_le hi.1
          have hj : j < X.length := by omega
          have c1 : (decide ((j : Int) < 0) || decide ((j : Int) ≥ (X.length : Int))) = false := by simp; omega
          have c2 : (decide ((0 : Int) ≤ (j : Int)) && decide ((j : Int) ≤ (X.length : Int))) = true := by simp; omega
          have c3 : (decide ((0 : Int) ≤ (j : Int) + 1) && decide ((j : Int) + 1 ≤ (X.length : Int)) && decide ((X.length : Int) ≤ (X.length : Int))) = true := by simp; omega
          have c4 : Int.toNat ((j : Int) + 1) = j + 1 := by omega
          rw [c1, cond_false, c2, cond_true, wi_id ((j : Int) + 1) (by omega) (by omega), c3, cond_true, c4, Int.toNat_natCast, Int.toNat_natCast, List.take_length, List.drop_zero]
          have hl1 : (X.take j).length ≤ 196 := by rw [List.length_take]; omega
          have hl2 : (X.drop (j + 1)).length ≤ 196 := by rw [List.length_drop]; omega
          rw [roomD (by omega), cond_true, roomD (by rw [List.length_append]; omega), cond_true]
          have hch : check b ro s (dayL b ro s) (X.take j ++ X.drop (j + 1)) = some false := by
            obtain ⟨r, h1, h2⟩ := check_is b ro s (dayL b ro s) (X.take j ++ X.drop (j + 1)) hs hn (by omega) (by rw [List.length_append]; omega)
            rw [h1]
            cases r
            · rfl
            · exfalso
              have h3 := (h2.1 rfl).exc
              rw [hX] at h3
              have h4 := h3 _ (getD_mem X j (Ty.zero t_api_Point) hj)
              have h5 : X = X.take j ++ X.getD j (Ty.zero t_api_Point) :: X.drop (j + 1) := by
                rw [← drop_cons X j (Ty.zero t_api_Point) hj, List.take_append_drop]
              rw [h5] at hnd
              rw [List.nodup_append] at hnd
              have h6 := List.nodup_cons.1 hnd.2.1
              rcases List.mem_append.1 h4 with h | h
              · exact hnd.2.2 _ h _ (by simp) rfl
              · exact h6.1 h
          rw [hch]
          rfl
        · have c1 : (decide (i < 0) || decide (i ≥ (X.length : Int))) = true := by
            simp only [Bool.or_eq_true, decide_eq_true_eq]; omega
          rw [c1]; rfl
      · have g1' : needs_loop7 day modest few allEx check (some true) FUEL ro s more i true 0 b = _ := g1
        rw [g1']
        rfl
end Go.Lift.S38
