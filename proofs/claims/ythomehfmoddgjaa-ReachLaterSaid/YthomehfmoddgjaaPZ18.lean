import Derived.Test.YthomehfmoddgjaaPX18
set_option linter.all false
/- The statement ReachLater. -/
set_option linter.unusedSimpArgs false
set_option linter.unusedVariables false
namespace Go.Lift.S18
open Go Go.Lift Go.Lift.Ar

theorem due_mono {hour later : Int} (h : hour ≤ later) (P : Nat) (l : Ld) (hd : dueB hour P l = true) : dueB later P l = true := by
  unfold dueB due3 at *
  simp only [Bool.and_eq_true, decide_eq_true_eq] at *
  obtain ⟨⟨h1, h2⟩, h3⟩ := hd
  exact ⟨⟨Int.le_trans h1 h, h2⟩, h3⟩

theorem left_left {hour later : Int} (h : hour ≤ later) (P : Nat) (q : List Ld) : left_ (left_ q hour P) later P = left_ q later P := by
  unfold left_
  rw [List.filter_filter]
  congr 1
  funext l
  cases h1 : dueB later P l
  · cases h2 : dueB hour P l
    · rfl
    · rw [due_mono h P l h2] at h1; cases h1
  · simp

theorem col_two {hour later : Int} (h : hour ≤ later) (P p j : Nat) : ∀ q : List Ld, col j (at_ q hour P p) + col j (at_ (left_ q hour P) later P p) = col j (at_ q later P p)
  | [] => rfl
  | l :: q => by
    have ih := col_two h P p j q
    cases h1 : dueB hour P l
    · have e1 : left_ (l :: q) hour P = l :: left_ q hour P := by unfold left_; rw [List.filter_cons, h1]; rfl
      have e2 : at_ (l :: q) hour P p = at_ q hour P p := by unfold at_; rw [List.filter_cons, h1]; rfl
      rw [e1, e2]
      have e3 : ∀ r : List Ld, at_ (l :: r) later P p = if (dueB later P l && ((l.2.1 : Int) == (p : Int))) = true then l :: at_ r later P p else at_ r later P p := fun r => by unfold at_; rw [List.filter_cons]
      rw [e3, e3]
      split
      · rw [col_cons, col_cons]; omega
      · exact ih
    · have h2 := due_mono h P l h1
      have e1 : left_ (l :: q) hour P = left_ q hour P := by unfold left_; rw [List.filter_cons, h1]; rfl
      have e3 : ∀ (r : List Ld) hr, dueB hr P l = true → at_ (l :: r) hr P p = if ((l.2.1 : Int) == (p : Int)) = true then l :: at_ r hr P p else at_ r hr P p := fun r hr hd => by unfold at_; rw [List.filter_cons, hd, Bool.true_and]
      rw [e1, e3 _ _ h1, e3 _ _ h2]
      split
      · rw [col_cons, col_cons]; omega
      · exact ih

theorem later_loop_is (later o : Int) (a b c : List (List Int)) (last all : List Ld) (P : Nat) (hP : P ≤ 10) (ha : a.length = P) (hb : b.length = P) (hc : c.length = P) (hh : ∀ p, p < P → padd (a.getD p []) (b.getD p []) = some (c.getD p []) ∧ (c.getD p []).length ≤ 16) (sm : Option Bool) :
    ∀ (k p : Nat), P < p + k → p ≤ P → later_loop10 push padd rdue ints loads few lright sm k later (P : Int) o true a b last c all (p : Int) = some (.inl (later, (P : Int), o, true, last, all)) := by
  intro k
  induction k with
  | zero => intro p h hp; omega
  | succ k ih =>
    intro p h hp0
    unfold later_loop10 later_loop10_step
    rw [Int.toNat_natCast]
    by_cases hp : p < P
    · have hp' : (p : Int) < (P : Int) := by omega
      rw [inb p a.length (by omega), inb p b.length (by omega), inb p c.length (by omega)]
      obtain ⟨h1, h2⟩ := hh p hp
      have h1' : padd (List.getD a p (nilOf Int)) (List.getD b p (nilOf Int)) = some (c.getD p []) := h1
      have h3 : ints (c.getD p []) (List.getD c p (nilOf Int)) = some true := ints_refl (c.getD p []) (by omega)
      simp only [hp', decide_true, cond_true, h1', Option.bind_some, h3, Bool.not_true, cond_false]
      rw [wi_id ((p : Int) + 1) (by omega) (by omega)]
      exact ih (p + 1) (by omega) (by omega)
    · have hp' : ¬ (p : Int) < (P : Int) := by omega
      simp only [hp', decide_false, cond_false]

theorem later_true (q : List Ld) (hour lat places o : Int) (hlat : InR lat) (hq : q.length ≤ 9223372036854775807) (hin : ∀ l, l ∈ q → ∀ x, x ∈ l.2.2.1 → InR x) :
    later q hour lat places o = some true := by
  unfold later later_body
  obtain ⟨f, hf, hff⟩ := few_eq q hq
  simp only [small_true, hf, Option.bind_some, sc_or]
  by_cases hc : (!f || decide (o < 1) || decide (o > 6) || decide (places < 1) || decide (places > 10) || decide (lat < hour)) = true
  · rw [hc]; rfl
  · rw [Bool.not_eq_true] at hc
    rw [hc, cond_false]
    simp only [Bool.or_eq_false_iff, decide_eq_false_iff_not, Bool.not_eq_false'] at hc
    obtain ⟨⟨⟨⟨⟨hc1, hc2⟩, hc3⟩, hc4⟩, hc5⟩, hc6⟩ := hc
    have hle : hour ≤ lat := by omega
    have hfew := hff.1 hc1
    have hQ : Qu q := ⟨by have := hfew.2; omega, fun l hl => ⟨by have := hfew.1 l hl; omega, hin l hl⟩⟩
    obtain ⟨r, hr, hrg⟩ := lright_eq q hQ o (by omega) (by omega)
    rw [hr]
    simp only [Option.bind_some]
    cases hr1 : r
    · rfl
    · obtain ⟨g1, g2⟩ := hrg hr1
      simp only [Bool.not_true, cond_false]
      obtain ⟨n, rfl⟩ := Int.eq_ofNat_of_zero_le (show 0 ≤ o by omega)
      obtain ⟨P, rfl⟩ := Int.eq_ofNat_of_zero_le (show 0 ≤ places by omega)
      rw [Int.toNat_natCast] at g1
      have hAF : AllFit q n := g1
      have hcP : cl (P : Int) 64 = P := by unfold cl; rw [if_neg (by omega), if_neg (by omega)]; simp
      have hcn : cl (n : Int) 16 = n := by unfold cl; rw [if_neg (by omega), if_neg (by omega)]; simp
      have hsub : ∀ h l, l ∈ left_ q h P → l ∈ q := fun h l hl => (List.mem_filter.1 hl).1
      have hlq : ∀ h, (left_ q h P).length ≤ 20 := fun h => Nat.le_trans (List.length_filter_le _ _) hfew.2
      have hLF : AllFit (left_ q hour P) n := hAF.sub (hsub hour)
      have hLs : tsum (left_ q hour P) ≤ 1125899906842624 := Int.le_trans (tsum_filter_le _ hAF) g2
      have hQL : ∀ h, Qu (left_ q h P) := fun h => ⟨by have := hlq h; omega, fun l hl => hQ.2 l (hsub h l hl)⟩
      have e1 := rdue_eq q hQ hour (P : Int) (n : Int)
      have e2 := rdue_eq (left_ q hour P) (hQL hour) lat (P : Int) (n : Int)
      have e3 := rdue_eq q hQ lat (P : Int) (n : Int)
      rw [hcP, hcn] at e1 e2 e3
      rw [left_left hle] at e2
      have hlen : ∀ (q : List Ld) h, (arr q h P n).length = P := fun q h => by simp [arr]
      rw [e1]
      simp only [Option.bind_some]
      rw [e2]
      simp only [Option.bind_some]
      rw [e3]
      simp only [Option.bind_some, hlen, bne_self_eq_false, cond_false]
      have g := later_loop_is lat (n : Int) (arr q hour P n) (arr (left_ q hour P) lat P n) (arr q lat P n) (left_ q lat P) (left_ q lat P) P (by omega) (hlen _ _) (hlen _ _) (hlen _ _) (fun p hp => by
        obtain ⟨a1, a2, a3⟩ := arr_spec hAF g2 hour P p hp
        obtain ⟨b1, b2, b3⟩ := arr_spec hLF hLs lat P p hp
        obtain ⟨c1, c2, c3⟩ := arr_spec hAF g2 lat P p hp
        refine ⟨?_, by omega⟩
        rw [padd_pl ⟨by omega, Fit_in a2⟩ ⟨by omega, Fit_in b2⟩]
        congr 1
        obtain ⟨z1, z2, z3, z4⟩ := zs_Fit (a1.trans b1.symm) a2 b2
        exact ext_getD (by omega) fun j _ => by rw [z4, a3, b3, c3, col_two hle]) (some true) FUEL 0 (fuel_gt _ (by omega)) (by omega)
      have g' : later_loop10 push padd rdue ints loads few lright (some true) FUEL lat (P : Int) (n : Int) true (arr q hour P n) (arr (left_ q hour P) lat P n) (left_ q lat P) (arr q lat P n) (left_ q lat P) 0 = _ := g
      rw [g']
      simp only [Option.bind_some, Sum.elim]
      have w1 : wi ((n : Int) - 1) = ((n - 1 : Nat) : Int) := by rw [wi_id _ (by omega) (by omega)]; omega
      have w2 : wi ((P : Int) - 1) = ((P - 1 : Nat) : Int) := by rw [wi_id _ (by omega) (by omega)]; omega
      rw [room4 (by omega) (by omega), cond_true, w1, w2, Int.toNat_natCast, Int.toNat_natCast, Int.toNat_natCast, Nat.zero_add, List.length_replicate, inb (n - 1) n (by omega), cond_true]
      -- the load that is pushed
      have hpart : ∀ part, part = (List.replicate n (0 : Int)).set (n - 1) 7 → part.length = n ∧ (∀ x, x ∈ part → InR x) ∧ anyPos part = true ∧ zs (List.replicate n 0) part = part := fun part hp => by
        have hl : part.length = n := by rw [hp]; simp
        have hin : ∀ x, x ∈ part → InR x := fun x hx => by
          rw [hp] at hx
          rcases List.mem_or_eq_of_mem_set hx with h | h
          · rw [(List.mem_replicate.1 h).2]; exact InR0
          · rw [h]; unfold InR; omega
        refine ⟨hl, hin, ?_, ?_⟩
        · unfold anyPos
          rw [List.any_eq_true]
          refine ⟨7, ?_, by decide⟩
          have := getD_mem part (n - 1) 0 (by omega)
          rw [hp] at this ⊢
          rw [getD_set, if_pos ⟨rfl, by simp; omega⟩] at this
          exact this
        · refine ext_getD (by rw [zs_len, hl]; simp [Nat.max_def]) fun i _ => ?_
          rw [zs_getD, (fit_rep n).2.2, Int.zero_add, sat_of (inR_getD hin i)]
      obtain ⟨p1, p2, p3, p4⟩ := hpart _ rfl
      generalize (List.replicate n (0 : Int)).set (n - 1) 7 = part at *
      have hpu : pushed (left_ q lat P) (wi (lat + 1)) ((P - 1 : Nat) : Int) part = left_ q lat P ++ [(wi (lat + 1), ((P - 1 : Nat) : Int), part, ())] := by
        unfold pushed; rw [if_neg (fun h => h.elim (fun h => by omega) (fun h => by rw [p3] at h; cases h))]
      have hll := hlq lat
      rw [push_eq _ _ _ _ (by omega) (by omega), hpu]
      have hw3 : wi (((left_ q lat P).length : Int) + 1) = (((left_ q lat P).length + 1 : Nat) : Int) := wi_id _ (by omega) (by omega)
      have hlo : loads (left_ q lat P) (left_ q lat P) = some true := loads_refl _ (by omega) fun x hx => by have := hfew.1 x (hsub lat x hx); omega
      simp only [Option.bind_some]
      by_cases hm : lat > 1000000
      · simp only [decide_eq_true hm, cond_true, cond_false, hlo, Option.bind_some, Bool.true_or, Bool.or_self]
      · have hne : ((((left_ q lat P) ++ [((wi (lat + 1), ((P - 1 : Nat) : Int), part, ()) : Ld)]).length : Int) != wi (((left_ q lat P).length : Int) + 1)) = false := by
          rw [hw3, List.length_append]; exact bne_self_eq_false _
        unfold InR at hlat
        have hw4 : wi (lat + 1) = lat + 1 := wi_id _ (by omega) (by omega)
        simp only [decide_eq_false hm, cond_false, hne, Option.bind_some, Bool.or_self]
        rw [hw4]
        have hnew : ∀ h, dueB h P ((lat + 1, ((P - 1 : Nat) : Int), part, ()) : Ld) = decide (lat + 1 ≤ h) := fun h => by
          show due3 h P (lat + 1) ((P - 1 : Nat) : Int) = _
          unfold due3
          rw [decide_eq_true (show (0 : Int) ≤ ((P - 1 : Nat) : Int) by omega), decide_eq_true (show ((P - 1 : Nat) : Int) < (P : Int) by omega), Bool.and_true, Bool.and_true]
        have hQ3 : Qu (left_ q lat P ++ [((lat + 1, ((P - 1 : Nat) : Int), part, ()) : Ld)]) := ⟨by rw [List.length_append]; simp; omega, fun l hl => by
          rcases List.mem_append.1 hl with hl | hl
          · exact (hQL lat).2 l hl
          · rw [List.mem_singleton.1 hl]; exact ⟨by show part.length ≤ 16; omega, p2⟩⟩
        have e4 := rdue_eq _ hQ3 lat (P : Int) (n : Int)
        have hearly : left_ (left_ q lat P ++ [((lat + 1, ((P - 1 : Nat) : Int), part, ()) : Ld)]) lat P = left_ q lat P ++ [((lat + 1, ((P - 1 : Nat) : Int), part, ()) : Ld)] := by
          have h1 : left_ (left_ q lat P) lat P = left_ q lat P := left_left (Int.le_refl _) P q
          have h2 : left_ [((lat + 1, ((P - 1 : Nat) : Int), part, ()) : Ld)] lat P = [((lat + 1, ((P - 1 : Nat) : Int), part, ()) : Ld)] := by
            unfold left_; rw [List.filter_cons, hnew, decide_eq_false (by omega)]; rfl
          have h3 : ∀ a b : List Ld, left_ (a ++ b) lat P = left_ a lat P ++ left_ b lat P := fun a b => by unfold left_; rw [List.filter_append]
          rw [h3, h1, h2]
        rw [hcP, hcn, hearly] at e4
        rw [e4]
        have hdrop : List.drop (left_ q lat P).length (List.take ((left_ q lat P ++ [((lat + 1, ((P - 1 : Nat) : Int), part, ()) : Ld)]).length) (left_ q lat P ++ [((lat + 1, ((P - 1 : Nat) : Int), part, ()) : Ld)])) = [((lat + 1, ((P - 1 : Nat) : Int), part, ()) : Ld)] := by
          rw [List.take_length, List.drop_left]
        have gg : (decide ((0 : Int) ≤ ((left_ q lat P).length : Int)) && decide (((left_ q lat P).length : Int) ≤ ((left_ q lat P ++ [((lat + 1, ((P - 1 : Nat) : Int), part, ()) : Ld)]).length : Int)) && decide (((left_ q lat P ++ [((lat + 1, ((P - 1 : Nat) : Int), part, ()) : Ld)]).length : Int) ≤ ((left_ q lat P ++ [((lat + 1, ((P - 1 : Nat) : Int), part, ()) : Ld)]).length : Int))) = true := by
          rw [List.length_append]; simp only [Bool.and_eq_true, decide_eq_true_eq]; omega
        have hQ4 : Qu [((lat + 1, ((P - 1 : Nat) : Int), part, ()) : Ld)] := ⟨by simp, fun l hl => by rw [List.mem_singleton.1 hl]; exact ⟨by show part.length ≤ 16; omega, p2⟩⟩
        have e5 := rdue_eq _ hQ4 (lat + 1) (P : Int) (n : Int)
        rw [hcP, hcn] at e5
        have hlo2 : loads (left_ q lat P ++ [((lat + 1, ((P - 1 : Nat) : Int), part, ()) : Ld)]) (left_ q lat P ++ [((lat + 1, ((P - 1 : Nat) : Int), part, ()) : Ld)]) = some true := loads_refl _ (by have := hQ3.1; omega) fun x hx => by have := (hQ3.2 x hx).1; omega
        have hd : List.getD (arr [((lat + 1, ((P - 1 : Nat) : Int), part, ()) : Ld)] (lat + 1) P n) (P - 1) (nilOf Int) = part := by
          unfold arr
          rw [getD_map_range _ _ _ _ (by omega)]
          simp only [List.foldl_cons, List.foldl_nil]
          unfold acc
          rw [hnew, if_pos ⟨by simp, rfl⟩]
          exact p4
        simp only [Option.bind_some]
        rw [gg, Int.toNat_natCast, Int.toNat_natCast, hdrop, e5]
        simp only [Option.bind_some, cond_true, hlo, hlo2, hlen, inb (P - 1) P (by omega)]
        rw [hd, ints_refl part (by omega)]
        rfl
end Go.Lift.S18
