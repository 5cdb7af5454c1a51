import Derived.Test.YthomehfmoddgjaaPX18
set_option linter.all false
/- The statement ReachConserves. -/
set_option linter.unusedSimpArgs false
set_option linter.unusedVariables false
namespace Go.Lift.S18
open Go Go.Lift Go.Lift.Ar

theorem dueL (hour : Int) (P : Nat) (a b : Int) : (decide (a ≤ hour) && decide (b ≥ 0) && decide (b < (P : Int))) = due3 hour P a b := rfl

theorem cut1 {α : Type} (l : List α) (i : Nat) (d : α) (h : i < l.length) : List.drop i (List.take (i + 1) l) = [l.getD i d] := by
  have h2 : i < (List.take (i + 1) l).length := by rw [List.length_take]; omega
  rw [drop_cons _ i d h2, List.drop_eq_nil_of_le (by rw [List.length_take]; omega)]
  congr 1
  simp only [List.getD_eq_getElem?_getD, List.getElem?_take, if_pos (Nat.lt_succ_self i)]

theorem conserves_loop10_is (q rest : List Ld) (hour : Int) (P : Nat) (o : Int) (arrived : List (List Int)) (sum : List Int) (hq : q.length ≤ 100) (hr : rest.length ≤ 100) (hl : ∀ l, l ∈ q → l.2.2.1.length ≤ 16) (sm : Option Bool) :
    ∀ (k i a : Nat), q.length < i + k → i ≤ q.length → a ≤ rest.length → rest.drop a = (q.drop i).filter (fun l => !dueB hour P l) →
      conserves_loop10 right_ rdue ints loads few lright totals sm k q hour (P : Int) o true arrived rest (a : Int) (i : Int) sum = some (.inl (q, (P : Int), o, true, arrived, rest, (rest.length : Int), sum)) := by
  intro k
  induction k with
  | zero => intro i a h hi; omega
  | succ k ih =>
    intro i a h hi0 ha hra
    unfold conserves_loop10 conserves_loop10_step
    have e1 : wi ((i : Int) + 1) = ((i + 1 : Nat) : Int) := wi_id _ (by omega) (by omega)
    have e2 : wi ((a : Int) + 1) = ((a + 1 : Nat) : Int) := wi_id _ (by omega) (by omega)
    rw [e1, e2, Int.toNat_natCast, Int.toNat_natCast, Int.toNat_natCast, Int.toNat_natCast]
    by_cases hi : i < q.length
    · have hm := hl _ (getD_mem q i (Ty.zero t_api_Load) hi)
      rw [cut1 q i (Ty.zero t_api_Load) hi]
      rw [drop_cons q i (Ty.zero t_api_Load) hi, List.filter_cons] at hra
      rw [inb _ _ hi]
      generalize List.getD q i (Ty.zero t_api_Load) = l at *
      have hi' : (i : Int) < (q.length : Int) := by omega
      simp only [hi', decide_true, cond_true, sc_and, Option.bind_some]
      have hdl : (decide (l.fst ≤ hour) && decide (l.snd.fst ≥ 0) && decide (l.snd.fst < (P : Int))) = dueB hour P l := rfl
      rw [hdl]
      cases hd : dueB hour P l
      · rw [hd, if_pos (by rfl)] at hra
        have hal : a < rest.length := by
          have := congrArg List.length hra
          rw [List.length_drop, List.length_cons] at this; omega
        rw [drop_cons rest a (Ty.zero t_api_Load) hal] at hra
        obtain ⟨h1, h2⟩ := List.cons.inj hra
        have ha' : decide ((a : Int) ≥ (rest.length : Int)) = false := decide_eq_false (by omega)
        have g1 : (decide ((0 : Int) ≤ (a : Int)) && decide ((a : Int) ≤ ((a + 1 : Nat) : Int)) && decide (((a + 1 : Nat) : Int) ≤ (rest.length : Int))) = true := by simp only [Bool.and_eq_true, decide_eq_true_eq]; omega
        have g2 : (decide ((0 : Int) ≤ (i : Int)) && decide ((i : Int) ≤ ((i + 1 : Nat) : Int)) && decide (((i + 1 : Nat) : Int) ≤ (q.length : Int))) = true := by simp only [Bool.and_eq_true, decide_eq_true_eq]; omega
        rw [ha', g1, g2, cut1 rest a (Ty.zero t_api_Load) hal, h1]
        rw [loads_refl [l] (by simp) (fun x hx => by rw [List.mem_singleton.1 hx]; omega)]
        simp only [cond_false, cond_true, Option.bind_some, Bool.not_true]
        exact ih (i + 1) (a + 1) (by omega) (by omega) (by omega) h2
      · rw [hd, if_neg (by simp)] at hra
        simp only [cond_true]
        exact ih (i + 1) a (by omega) (by omega) ha hra
    · have hi' : ¬ (i : Int) < (q.length : Int) := by omega
      rw [(List.drop_eq_nil_of_le (by omega) : q.drop i = []), List.filter_nil] at hra
      have : a = rest.length := by
        have := congrArg List.length hra
        rw [List.length_drop, List.length_nil] at this; omega
      simp only [hi', decide_false, cond_false, this]

theorem conserves_loop23_is (q rest : List Ld) (P o : Int) (n : Nat) (arrived : List (List Int)) (at_ : Int) (p : Nat) (hp : p < arrived.length) (hn : n ≤ 64) (part : List Int) (hpp : arrived.getD p [] = part) (hl : part.length = n) (sm : Option Bool) :
    ∀ (k j : Nat) (s : List Int), n < j + k → j ≤ n → s.length = n → (∀ m, j ≤ m → InR (s.getD m 0 + part.getD m 0)) →
      ∃ r, conserves_loop23 right_ rdue ints loads few lright totals sm k q P (n : Int) true arrived rest at_ (p : Int) (j : Int) s = some (q, P, (n : Int), true, arrived, rest, at_, (p : Int), r) ∧ r.length = n ∧ ∀ m, r.getD m 0 = if j ≤ m ∧ m < n then s.getD m 0 + part.getD m 0 else s.getD m 0 := by
  intro k
  induction k with
  | zero => intro j s h hj; omega
  | succ k ih =>
    intro j s h hj hs hr
    unfold conserves_loop23 conserves_loop23_step
    have hpp' : List.getD arrived p (nilOf Int) = part := hpp
    rw [Int.toNat_natCast, Int.toNat_natCast, Nat.zero_add, inb _ _ hp, hpp']
    by_cases hjn : j < n
    · have hj' : (j : Int) < (n : Int) := by omega
      rw [hs, hl, inb _ _ hjn]
      simp only [hj', decide_true, cond_true]
      rw [wi_of (hr j (Nat.le_refl _)), wi_id ((j : Int) + 1) (by omega) (by omega)]
      obtain ⟨r, g1, g2, g3⟩ := ih (j + 1) (s.set j (s.getD j 0 + part.getD j 0)) (by omega) (by omega) (by rw [List.length_set]; exact hs) (fun m hm => by
        rw [getD_set, if_neg (by omega)]; exact hr m (by omega))
      refine ⟨r, g1, g2, fun m => ?_⟩
      rw [g3, getD_set]
      by_cases hm : j = m
      · subst hm; rw [if_neg (by omega), if_pos ⟨rfl, by omega⟩, if_pos ⟨Nat.le_refl _, hjn⟩]
      · by_cases hm2 : j + 1 ≤ m ∧ m < n
        · rw [if_pos hm2, if_neg (fun h => hm h.1), if_pos (by omega)]
        · rw [if_neg hm2, if_neg (fun h => hm h.1), if_neg (by omega)]
    · have hj' : ¬ (j : Int) < (n : Int) := by omega
      simp only [hj', decide_false, cond_false]
      exact ⟨s, rfl, hs, fun m => by rw [if_neg (by omega)]⟩

/-- An owner's litres in pools. -/
def acol (j : Nat) (A : List (List Int)) : Int := isum (A.map fun x => x.getD j 0)

theorem conserves_loop18_is (q rest : List Ld) (n : Nat) (hn : n ≤ 6) (arrived : List (List Int)) (hP : arrived.length ≤ 64) (at_ : Int) (hA : ∀ x, x ∈ arrived → x.length = n ∧ Fit x) (sm : Option Bool) :
    ∀ (k p : Nat) (s : List Int), arrived.length < p + k → p ≤ arrived.length → s.length = n → (∀ m, 0 ≤ s.getD m 0 ∧ s.getD m 0 + acol m (arrived.drop p) ≤ 2251799813685248) →
      ∃ r, conserves_loop18 right_ rdue ints loads few lright totals sm k q (arrived.length : Int) (n : Int) true arrived rest at_ (p : Int) s = some (.inl (q, (n : Int), true, rest, at_, r)) ∧ r.length = n ∧ ∀ m, r.getD m 0 = s.getD m 0 + acol m (arrived.drop p) := by
  intro k
  induction k with
  | zero => intro p s h hi; omega
  | succ k ih =>
    intro p s h hi0 hs hle
    unfold conserves_loop18 conserves_loop18_step
    rw [Int.toNat_natCast]
    by_cases hp : p < arrived.length
    · have hm := hA _ (getD_mem arrived p [] hp)
      have hnn : ∀ m, 0 ≤ acol m (arrived.drop (p + 1)) := fun m => isum_nonneg fun x hx => by
        obtain ⟨y, hy, rfl⟩ := List.mem_map.1 hx
        exact (Fit_getD (hA y (List.mem_of_mem_drop hy)).2 m).1
      rw [drop_cons arrived p [] hp] at hle ⊢
      rw [inb _ _ hp]
      have hx : List.getD arrived p (nilOf Int) = arrived.getD p [] := rfl
      rw [hx]
      generalize hpp : arrived.getD p [] = x at *
      have hp' : (p : Int) < (arrived.length : Int) := by omega
      have hr := right__eq x (n : Int) (Fit_in hm.2) (by omega)
      rw [decide_eq_true (show (0 : Int) ≤ (n : Int) ∧ (n : Int) ≤ 16 ∧ (x.length : Int) = (n : Int) ∧ Fit x from ⟨by omega, by omega, by omega, hm.2⟩)] at hr
      have hc : ∀ m, acol m (x :: arrived.drop (p + 1)) = x.getD m 0 + acol m (arrived.drop (p + 1)) := fun m => rfl
      obtain ⟨r, g1, g2, g3⟩ := conserves_loop23_is q rest (arrived.length : Int) 0 n arrived at_ p hp (by omega) x hpp hm.1 sm FUEL 0 s (fuel_gt _ (by omega)) (by omega) hs (fun m _ => by
        have h1 := hle m; have h2 := Fit_getD hm.2 m; have h3 := hnn m; rw [hc] at h1; unfold InR; omega)
      have g1' : conserves_loop23 right_ rdue ints loads few lright totals sm FUEL q (arrived.length : Int) (n : Int) true arrived rest at_ (p : Int) 0 s = _ := g1
      simp only [hp', decide_true, cond_true, cond_false, hr, g1', Option.bind_some, Bool.not_true]
      rw [wi_id ((p : Int) + 1) (by omega) (by omega)]
      have hrr : ∀ m, r.getD m 0 = s.getD m 0 + x.getD m 0 := fun m => by
        rw [g3]
        by_cases h : m < n
        · rw [if_pos ⟨by omega, h⟩]
        · rw [if_neg (fun hh => h hh.2), getD_far x m (by omega), Int.add_zero]
      obtain ⟨r2, y1, y2, y3⟩ := ih (p + 1) r (by omega) (by omega) g2 (fun m => by
        have h1 := hle m; have h2 := Fit_getD hm.2 m; rw [hc] at h1; rw [hrr]; omega)
      refine ⟨r2, y1, y2, fun m => ?_⟩
      rw [y3, hrr, hc]; omega
    · have hp' : ¬ (p : Int) < (arrived.length : Int) := by omega
      rw [(List.drop_eq_nil_of_le (by omega) : arrived.drop p = [])]
      simp only [hp', decide_false, cond_false]
      exact ⟨s, rfl, hs, fun m => by show _ = _ + (0 : Int); omega⟩

theorem acol_arr {n : Nat} {q : List Ld} (hq : AllFit q n) (hs : tsum q ≤ 1125899906842624) (hour : Int) (P j : Nat) : acol j (arr q hour P n) = isum ((List.range P).map fun p => col j (at_ q hour P p)) := by
  unfold acol
  have e : (arr q hour P n).map (fun x => x.getD j 0) = (List.range P).map fun p => col j (at_ q hour P p) := by
    have hlen : (arr q hour P n).length = P := by simp [arr]
    refine ext_getD (by simp [hlen]) fun p hp => ?_
    rw [List.length_map, hlen] at hp
    have h := (arr_spec hq hs hour P p hp).2.2 j
    rw [getD_map_range _ _ _ _ hp, ← h]
    simp only [List.getD_eq_getElem?_getD, List.getElem?_map]
    rw [List.getElem?_eq_getElem (by rw [hlen]; exact hp)]
    rfl
  rw [e]

theorem conserves_true (q : List Ld) (hour places o : Int) (hq : q.length ≤ 9223372036854775807) (hin : ∀ l, l ∈ q → ∀ x, x ∈ l.2.2.1 → InR x) :
    conserves q hour places o = some true := by
  unfold conserves conserves_body
  obtain ⟨f, hf, hff⟩ := few_eq q hq
  simp only [small_true, hf, Option.bind_some, sc_or]
  by_cases hc : (!f || decide (o < 0) || decide (o > 6) || decide (places < 0) || decide (places > 10)) = true
  · rw [hc]; rfl
  · rw [Bool.not_eq_true] at hc
    rw [hc, cond_false]
    simp only [Bool.or_eq_false_iff, decide_eq_false_iff_not, Bool.not_eq_false'] at hc
    obtain ⟨⟨⟨⟨hc1, hc2⟩, hc3⟩, hc4⟩, hc5⟩ := hc
    have hfew := hff.1 hc1
    have hQ : Qu q := ⟨by have := hfew.2; omega, fun l hl => ⟨by have := hfew.1 l hl; omega, hin l hl⟩⟩
    obtain ⟨r, hr, hrg⟩ := lright_eq q hQ o (by omega) (by omega)
    rw [hr]
    simp only [Option.bind_some]
    cases hr1 : r
    · rfl
    · obtain ⟨g1, g2⟩ := hrg hr1
      simp only [Bool.not_true, cond_false]
      obtain ⟨n, rfl⟩ := Int.eq_ofNat_of_zero_le (show 0 ≤ o by omega)
      obtain ⟨P, rfl⟩ := Int.eq_ofNat_of_zero_le (show 0 ≤ places by omega)
      rw [Int.toNat_natCast] at g1
      have hAF : AllFit q n := g1
      have hcP : cl (P : Int) 64 = P := by unfold cl; rw [if_neg (by omega), if_neg (by omega)]; simp
      have hcn : cl (n : Int) 16 = n := by unfold cl; rw [if_neg (by omega), if_neg (by omega)]; simp
      rw [rdue_eq q hQ, hcP, hcn]
      have hlen : (arr q hour P n).length = P := by simp [arr]
      have hll : (left_ q hour P).length ≤ 20 := Nat.le_trans (List.length_filter_le _ _) hfew.2
      have hLF : AllFit (left_ q hour P) n := hAF.sub fun l hl => (List.mem_filter.1 hl).1
      have hLs : tsum (left_ q hour P) ≤ 1125899906842624 := Int.le_trans (tsum_filter_le _ hAF) g2
      simp only [Option.bind_some, hlen, bne_self_eq_false, cond_false]
      obtain ⟨T, t1, t2, t3⟩ := totals_eq (left_ q hour P) n hLF (by omega) (by omega) hLs
      rw [t1]
      simp only [Option.bind_some]
      have c10 : conserves_loop10 right_ rdue ints loads few lright totals (some true) FUEL q hour (P : Int) (n : Int) true (arr q hour P n) (left_ q hour P) 0 0 T = _ :=
        conserves_loop10_is q (left_ q hour P) hour P (n : Int) (arr q hour P n) T (by have := hfew.2; omega) (by omega) (fun l hl => by have := hfew.1 l hl; omega) (some true) FUEL 0 0 (fuel_gt _ (by have := hfew.2; omega)) (by omega) (by omega) rfl
      rw [c10]
      simp only [Option.bind_some, Sum.elim]
      have hA : ∀ x, x ∈ arr q hour P n → x.length = n ∧ Fit x := fun x hx => by
        have hx2 := hx
        simp only [arr, List.mem_map, List.mem_range] at hx2
        obtain ⟨p, hp, rfl⟩ := hx2
        have h := arr_spec hAF g2 hour P p hp
        unfold arr at h
        rw [getD_map_range _ _ _ _ hp] at h
        exact ⟨h.1, h.2.1⟩
      have key : ∀ m, T.getD m 0 + acol m (arr q hour P n) = col m q := fun m => by
        rw [t3, acol_arr hAF g2, conserve hour P m q]
      obtain ⟨r, y1, y2, y3⟩ := conserves_loop18_is q (left_ q hour P) n (by omega) (arr q hour P n) (by omega) ((left_ q hour P).length : Int) hA (some true) FUEL 0 T (fuel_gt _ (by omega)) (by omega) t2 (fun m => by
        rw [List.drop_zero, key]; have := col_le m hAF; have := col_le m hLF; rw [t3]; omega)
      rw [hlen] at y1
      have y1' : conserves_loop18 right_ rdue ints loads few lright totals (some true) FUEL q (P : Int) (n : Int) true (arr q hour P n) (left_ q hour P) ((left_ q hour P).length : Int) 0 T = _ := y1
      rw [y1']
      obtain ⟨U, u1, u2, u3⟩ := totals_eq q n hAF (by have := hfew.2; omega) (by omega) g2
      have hrU : r = U := ext_getD (by omega) fun m _ => by rw [y3, List.drop_zero, key, u3]
      simp only [Option.bind_some, Sum.elim, cond_true, beq_self_eq_true, u1]
      rw [hrU, ints_refl U (by omega)]
      rfl
end Go.Lift.S18
