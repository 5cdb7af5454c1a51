import Derived.Test.YtbdbjamebjbhnaaPD38
set_option linter.all false
/- call.of: the examined day. -/
set_option linter.unusedSimpArgs false
set_option linter.unusedVariables false
namespace Go.Lift.S38
open Go Go.Lift Go.Lift.Ar Go.Lift.Gr

abbrev DayD := t_api_Basin.den × (List (t_api_Right.den) × (Unit × (Unit × (Unit × Unit))))
abbrev DayV := t_api_Basin.den × (List (t_api_Right.den) × (List (List Int) × (List Int × (List Int × Unit))))

theorem of10_is (gr : List t_api_Point.den) (i : Nat) (ro : List t_api_Right.den) (x y : Int) (l : List Int) (b : t_api_Basin.den) (t8 : DayV) (d : DayD) (ob3 : List (List Int)) (ob4 : List Int) (hi : i < ob4.length) (hl : Good (nP b) l) (hn : nP b ≤ 16) :
    ∀ (k j : Nat) (ob5 : List Int), l.length < j + k → j ≤ l.length → ob5.length = nP b →
      of__loop10 rch day k gr (i : Int) ro x y l (l.length : Int) (j : Int) b t8 d ob3 ob4 ob5 = some (gr, ro, x, y, b, t8, d, ob3, ob4, upd (fun v => wi (v - ob4.getD i 0)) ob5 (l.drop j)) := by
  have hll := hl.len
  intro k
  induction k with
  | zero => intro j d h hj; omega
  | succ k ih =>
    intro j ob5 h hj0 hd
    unfold of__loop10 of__loop10_step
    rw [Int.toNat_natCast]
    by_cases hj : j < l.length
    · have hb := hl.2 _ (getD_mem l j 0 hj)
      rw [drop_cons l j 0 hj, inb _ _ hj, inb _ _ hi, decide_eq_true (show (j : Int) < (l.length : Int) by omega), Int.toNat_natCast]
      simp only [cond_true, upd]
      generalize List.getD l j 0 = q at *
      have e : (decide (0 ≤ q) && decide (q < (ob5.length : Int))) = true := by simp; omega
      rw [e, Nat.zero_add, Nat.zero_add]
      simp only [cond_true]
      rw [wi_id ((j : Int) + 1) (by omega) (by omega)]
      exact ih (j + 1) _ (by omega) (by omega) (by rw [List.length_set]; exact hd)
    · rw [decide_eq_false (show ¬ (j : Int) < (l.length : Int) by omega), cond_false, List.drop_eq_nil_of_le (by omega)]
      rfl

theorem getD_snoc {α : Type} (l : List α) (x d : α) (i : Nat) (h : l.length = i) : (l ++ [x]).getD i d = x := by
  rw [List.getD_eq_getElem?_getD, List.getElem?_append_right (by omega), h, Nat.sub_self]; rfl

noncomputable def reL (b : t_api_Basin.den) (ro : List t_api_Right.den) : List (List Int) := (List.range ro.length).map (rR b ro)
def goL (ro : List t_api_Right.den) (gr : List t_api_Point.den) : List Int := (List.range ro.length).map (gotF gr)

theorem of4_is (gr : List t_api_Point.den) (ro : List t_api_Right.den) (s : List Int) (b : t_api_Basin.den) (t8 : DayV) (d : DayD) (hs : ∀ x, x ∈ s → InR x) (hn : nP b ≤ 16) (hro : ro.length ≤ 64) :
    ∀ (k i : Nat) (ob3 : List (List Int)) (ob4 ob5 : List Int), ro.length < i + k → i ≤ ro.length → ob3 = (List.range i).map (rR b ro) → ob4.length = ro.length → (∀ j, j < ro.length → ob4.getD j 0 = if j < i then gotF gr j else 0) →
      ob5.length = nP b → (∀ j : Nat, j < nP b → ob5.getD j 0 = fw b ro s gr i (j : Int)) →
      of__loop4 rch day k gr ro (ro.length : Int) (i : Int) b t8 d ob3 ob4 ob5 = some (t8, d, reL b ro, goL ro gr, lfL b (fw b ro s gr ro.length)) := by
  intro k
  induction k with
  | zero => intro i ob3 ob4 ob5 h hi; omega
  | succ k ih =>
    intro i ob3 ob4 ob5 h hi0 h3 h4 h4' h5 h5'
    unfold of__loop4 of__loop4_step
    by_cases hi : i < ro.length
    · rw [inb _ _ hi, decide_eq_true (show (i : Int) < (ro.length : Int) by omega), Int.toNat_natCast, Nat.zero_add]
      simp only [cond_true]
      obtain ⟨r1, _, r3, _⟩ := rch_is b hn (plR (ro.getD i (Ty.zero t_api_Right)))
      have r1' : rch b (List.getD ro i (Ty.zero t_api_Right)).2.2.2.1 = some (rR b ro i) := r1
      have r3' : Good (nP b) (rR b ro i) := r3
      have hlen := r3'.len
      have hl3 : ob3.length = i := by rw [h3]; simp
      rw [r1']
      simp only [Option.bind_some]
      rw [app1, roomD (by rw [List.length_append, hl3]; simp; omega), getD_snoc _ _ _ _ hl3, inb i (ob3 ++ [rR b ro i]).length (by rw [List.length_append, hl3]; simp), inb i ob4.length (by omega), wi_id ((i : Int) + 1) (by omega) (by omega)]
      simp only [cond_true]
      have n3 : ob3 ++ [rR b ro i] = (List.range (i + 1)).map (rR b ro) := by
        rw [List.range_succ, List.map_append, h3]; rfl
      by_cases hg : i < gr.length
      · rw [decide_eq_false (show ¬ (i : Int) ≥ (gr.length : Int) by omega), inb _ _ hg]
        simp only [cond_false, cond_true]
        have eG : (List.getD gr i (Ty.zero t_api_Point)).2.1 = gotF gr i := by unfold gotF; rw [if_pos hg]
        rw [eG]
        have hset : ∀ j, j < ro.length → (ob4.set i (gotF gr i)).getD j 0 = if j < i + 1 then gotF gr j else 0 := fun j hj => by
          rw [getD_set]
          by_cases e : i = j
          · subst e; rw [if_pos ⟨rfl, by omega⟩, if_pos (by omega)]
          · rw [if_neg (fun hh => e hh.1), h4' j hj]
            by_cases e2 : j < i
            · rw [if_pos e2, if_pos (by omega)]
            · rw [if_neg e2, if_neg (by omega)]
        have g : of__loop10 rch day FUEL gr (i : Int) ro (ro.length : Int) (i : Int) (rR b ro i) ((rR b ro i).length : Int) 0 b t8 d (ob3 ++ [rR b ro i]) (ob4.set i (gotF gr i)) ob5 = _ := of10_is gr i ro (ro.length : Int) (i : Int) (rR b ro i) b t8 d (ob3 ++ [rR b ro i]) (ob4.set i (gotF gr i)) (by rw [List.length_set]; omega) r3' hn FUEL 0 ob5 (fuel_gt _ (by omega)) (by omega) h5
        have g' : of__loop10 rch day FUEL gr (i : Int) ro (ro.length : Int) (i : Int) (rR b ro i) ((rR b ro i).length : Int) 0 b t8 (d.fst, d.snd.fst, (), (), (), d.snd.snd.snd.snd.snd) (ob3 ++ [rR b ro i]) (ob4.set i (gotF gr i)) ob5 = _ := g
        rw [g', List.drop_zero]
        simp only [Option.bind_some]
        rw [wi_id ((i : Int) + 1) (by omega) (by omega)]
        refine ih (i + 1) _ _ _ (by omega) (by omega) n3 (by rw [List.length_set]; exact h4) hset (by rw [upd_length]; exact h5) (fun j hj => ?_)
        have e := hset i hi
        rw [if_pos (Nat.lt_succ_self i)] at e
        rw [upd_getD _ _ _ r3'.1 (fun x hx => by rw [h5]; exact r3'.2 x hx), h5' j hj, e]
        simp only [fw]
      · rw [decide_eq_true (show (i : Int) ≥ (gr.length : Int) by omega), cond_true]
        have hz : gotF gr i = 0 := by unfold gotF; rw [if_neg hg]
        refine ih (i + 1) _ _ _ (by omega) (by omega) n3 h4 (fun j hj => ?_) h5 (fun j hj => ?_)
        · rw [h4' j hj]
          by_cases e2 : j < i
          · rw [if_pos e2, if_pos (by omega)]
          · rw [if_neg e2]
            by_cases e3 : j = i
            · subst e3; rw [if_pos (by omega), hz]
            · rw [if_neg (by omega)]
        · rw [h5' j hj]
          simp only [fw]
          split
          · rw [hz, Int.sub_zero, wi_of (fw_in b ro s gr hs i _)]
          · rfl
    · have : i = ro.length := by omega
      subst this
      rw [decide_eq_false (show ¬ (ro.length : Int) < (ro.length : Int) by omega), cond_false, Option.some.injEq]
      have e4 : ob4 = goL ro gr := ext_getD (by simp [goL, h4]) fun j hj => by
        rw [h4' j (by omega), if_pos (by omega)]
        exact (getD_map_range _ _ _ _ (by omega)).symm
      have e5 : ob5 = lfL b (fw b ro s gr ro.length) := ext_getD (by rw [h5, lfL_length]) fun j hj => by
        rw [h5' j (by omega), lfL_getD _ _ _ (by omega)]
      rw [h3, e4, e5]
      rfl

theorem of_is (b : t_api_Basin.den) (ro : List t_api_Right.den) (s : List Int) (gr : List t_api_Point.den) (hs : ∀ x, x ∈ s → InR x) (hn : nP b ≤ 16) (hro : ro.length ≤ 64) :
    of_ b ro s gr = some ((b, ro, (), (), (), ()), reL b ro, goL ro gr, lfL b (fw b ro s gr ro.length)) := by
  unfold of_ of__body
  have hd := day_is b [] s hs hn (by simp)
  have hd' : day b (nilOf (Ty.den t_api_Right)) s = _ := hd
  rw [room4 (by omega) (by omega), hd', Int.toNat_natCast]
  simp only [cond_true, Option.bind_some]
  have g := of4_is gr ro s b ((nilOf UInt8, nilOf (Ty.den Ty.str), Int.ofNat ((0 : Nat)), nilOf (Ty.den t_api_Place), nilOf (Ty.den t_api_Link), nilOf (Ty.den t_api_Town), nilOf (Ty.den t_api_Gauge), nilOf (Ty.den t_api_Road), nilOf (Ty.den t_api_Shelter), nilOf (Int), Int.ofNat ((0 : Nat)), PUnit.unit), nilOf (Ty.den t_api_Right), nilOf (Ty.den (Ty.slice (0 : Nat) (Ty.int Go.IntKind.i64))), nilOf (Int), nilOf (Int), PUnit.unit) (b, ro, (), (), (), PUnit.unit) hs hn hro FUEL 0 [] (List.replicate ro.length 0) (lfL b (fl (rR b []) (MS b s) (gD b [] s) 0))
    (fuel_gt _ (by omega)) (by omega) rfl (by simp) (fun j hj => by rw [getD_replicate _ _ _ _ hj, if_neg (by omega)]) (lfL_length _ _) (fun j hj => by rw [lfL_getD _ _ _ hj]; rfl)
  have g' : of__loop4 rch day FUEL gr ro (ro.length : Int) 0 b _ _ (nilOf (Ty.den (Ty.slice (0 : Nat) (Ty.int Go.IntKind.i64)))) (List.replicate ro.length 0) (lfL b (fl (rR b []) (MS b s) (gD b [] s) ([] : List t_api_Right.den).length)) = _ := g
  rw [g']
  rfl
end Go.Lift.S38
