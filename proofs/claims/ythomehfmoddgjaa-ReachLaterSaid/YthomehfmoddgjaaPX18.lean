import Derived.Test.YthomehfmoddgjaaPV18
set_option linter.all false
/- What arrives and what remains: the sums. -/
set_option linter.unusedSimpArgs false
set_option linter.unusedVariables false
namespace Go.Lift.S18
open Go Go.Lift Go.Lift.Ar

/-- An owner's litres. -/
def col (j : Nat) (q : List Ld) : Int := isum (q.map fun l => l.2.2.1.getD j 0)
theorem col_cons (j : Nat) (l : Ld) (q : List Ld) : col j (l :: q) = l.2.2.1.getD j 0 + col j q := rfl

def AllFit (q : List Ld) (n : Nat) : Prop := ∀ l, l ∈ q → l.2.2.1.length = n ∧ Fit l.2.2.1
theorem AllFit.tail {l : Ld} {q : List Ld} {n : Nat} (h : AllFit (l :: q) n) : AllFit q n := fun m hm => h m (by simp [hm])
theorem AllFit.sub {q r : List Ld} {n : Nat} (h : AllFit q n) (hs : ∀ l, l ∈ r → l ∈ q) : AllFit r n := fun m hm => h m (hs m hm)

theorem getD_le_isum : ∀ {l : List Int} (j : Nat), (∀ x, x ∈ l → 0 ≤ x) → 0 ≤ l.getD j 0 ∧ l.getD j 0 ≤ isum l
  | [], j, _ => by simp [isum]
  | x :: l, 0, h => by
    have := h x (by simp); have := isum_nonneg (l := l) (fun y hy => h y (by simp [hy]))
    simp only [List.getD_cons_zero, isum]; omega
  | x :: l, j + 1, h => by
    have := h x (by simp); have := getD_le_isum (l := l) j (fun y hy => h y (by simp [hy]))
    simp only [List.getD_cons_succ, isum]; omega

theorem col_le {n : Nat} (j : Nat) : ∀ {q : List Ld}, AllFit q n → 0 ≤ col j q ∧ col j q ≤ tsum q
  | [], _ => by simp [col, tsum, isum]
  | l :: q, h => by
    have ih := col_le j h.tail
    have := getD_le_isum j (h l (by simp)).2.1
    rw [col_cons, tsum_cons]; omega

theorem tsum_filter_le {n : Nat} (p : Ld → Bool) : ∀ {q : List Ld}, AllFit q n → tsum (q.filter p) ≤ tsum q
  | [], _ => by simp [tsum, isum]
  | l :: q, h => by
    have ih := tsum_filter_le p h.tail
    have := isum_nonneg (h l (by simp)).2.1
    rw [List.filter_cons, tsum_cons l q]
    split
    · rw [tsum_cons]; omega
    · omega

/-- Pools that are added up. -/
def zfold (s : List Int) (r : List Ld) : List Int := r.foldl (fun s l => zs s l.2.2.1) s
theorem zfold_spec {n : Nat} : ∀ (r : List Ld) (s : List Int), AllFit r n → s.length = n → Fit s → isum s + tsum r ≤ 1125899906842624 →
    (zfold s r).length = n ∧ Fit (zfold s r) ∧ isum (zfold s r) = isum s + tsum r ∧ ∀ j, (zfold s r).getD j 0 = s.getD j 0 + col j r
  | [], s, _, h, hs, _ => by
    exact ⟨h, hs, by show isum s = isum s + 0; omega, fun j => by show s.getD j 0 = s.getD j 0 + 0; omega⟩
  | l :: r, s, h, hl, hs, hle => by
    obtain ⟨a, b⟩ := h l (by simp)
    obtain ⟨z1, z2, z3, z4⟩ := zs_Fit (hl.trans a.symm) hs b
    have hn := tsum_nonneg (q := r) (fun m hm => (h.tail m hm).2)
    rw [tsum_cons] at hle
    obtain ⟨y1, y2, y3, y4⟩ := zfold_spec r (zs s l.2.2.1) h.tail (z3.trans a) ⟨z2, by omega⟩ (by omega)
    refine ⟨y1, y2, ?_, fun j => ?_⟩
    · show isum (zfold (zs s l.2.2.1) r) = _; rw [y3, z1, tsum_cons]; omega
    · show (zfold (zs s l.2.2.1) r).getD j 0 = _; rw [y4, z4, col_cons]; omega

/-- The loads that arrive at a place. -/
def at_ (q : List Ld) (hour : Int) (P p : Nat) : List Ld := q.filter fun l => dueB hour P l && ((l.2.1 : Int) == (p : Int))

theorem acc_fold (hour : Int) (P p : Nat) (q : List Ld) (s : List Int) : q.foldl (acc hour P p) s = zfold s (at_ q hour P p) := by
  unfold zfold at_
  rw [List.foldl_filter]
  congr 1
  funext s l
  unfold acc
  by_cases h : dueB hour P l = true ∧ l.2.1 = (p : Int)
  · rw [if_pos h, if_pos (by rw [Bool.and_eq_true, beq_iff_eq]; exact h)]
  · rw [if_neg h, if_neg (by rw [Bool.and_eq_true, beq_iff_eq]; exact h)]

theorem fit_rep (n : Nat) : Fit (List.replicate n 0) ∧ isum (List.replicate n 0) = 0 ∧ ∀ j, (List.replicate n (0 : Int)).getD j 0 = 0 := by
  have h : ∀ n : Nat, isum (List.replicate n 0) = 0 := fun n => by
    induction n with
    | zero => rfl
    | succ n ih => simp only [List.replicate_succ, isum, ih]; rfl
  refine ⟨⟨fun x hx => by rw [(List.mem_replicate.1 hx).2]; omega, by rw [h]; omega⟩, h n, fun j => ?_⟩
  by_cases hj : j < n
  · exact getD_replicate _ _ _ _ hj
  · exact getD_far _ _ (by simp; omega)

theorem isum_single : ∀ (P t : Nat) (x : Int), t < P → isum ((List.range P).map fun p => if p = t then x else 0) = x := by
  intro P
  induction P with
  | zero => intro t x h; omega
  | succ P ih =>
    intro t x h
    rw [List.range_succ, List.map_append, isum_append]
    by_cases ht : t < P
    · rw [ih t x ht, List.map_singleton, if_neg (by omega)]; simp [isum]
    · have e : t = P := by omega
      subst e
      have z : ∀ n : Nat, n ≤ t → isum ((List.range n).map fun p => if p = t then x else 0) = 0 := fun n => by
        induction n with
        | zero => intro _; rfl
        | succ n ih2 => intro hn; rw [List.range_succ, List.map_append, isum_append, ih2 (by omega), List.map_singleton, if_neg (by omega)]; simp [isum]
      rw [z t (Nat.le_refl _), List.map_singleton, if_pos rfl]; simp [isum]

theorem isum_add : ∀ (P : List Nat) (f g : Nat → Int), isum (P.map fun p => f p + g p) = isum (P.map f) + isum (P.map g)
  | [], _, _ => rfl
  | p :: P, f, g => by simp only [List.map_cons, isum, isum_add P f g]; omega

/-- Nothing is lost. -/
theorem conserve (hour : Int) (P j : Nat) : ∀ q : List Ld, col j q = col j (left_ q hour P) + isum ((List.range P).map fun p => col j (at_ q hour P p))
  | [] => by
    have z : ∀ n : Nat, isum ((List.range n).map fun p => col j (at_ [] hour P p)) = 0 := fun n => by
      induction n with
      | zero => rfl
      | succ n ih => rw [List.range_succ, List.map_append, isum_append, ih]; rfl
    rw [z]; rfl
  | l :: q => by
    have ih := conserve hour P j q
    rw [col_cons, ih]
    cases hd : dueB hour P l
    · have e1 : left_ (l :: q) hour P = l :: left_ q hour P := by unfold left_; rw [List.filter_cons, hd]; rfl
      have e2 : ∀ p, at_ (l :: q) hour P p = at_ q hour P p := fun p => by unfold at_; rw [List.filter_cons, hd]; rfl
      rw [e1, col_cons]; simp only [e2]; omega
    · have hd' := hd
      unfold dueB due3 at hd'
      simp only [Bool.and_eq_true, decide_eq_true_eq] at hd'
      obtain ⟨⟨_, hd1⟩, hd2⟩ := hd'
      obtain ⟨t, ht⟩ := Int.eq_ofNat_of_zero_le hd1
      have e1 : left_ (l :: q) hour P = left_ q hour P := by unfold left_; rw [List.filter_cons, hd]; rfl
      have e2 : ∀ p, col j (at_ (l :: q) hour P p) = (if p = t then l.2.2.1.getD j 0 else 0) + col j (at_ q hour P p) := fun p => by
        unfold at_; rw [List.filter_cons, hd, Bool.true_and]
        by_cases hp : p = t
        · subst hp
          rw [if_pos rfl, if_pos (by rw [beq_iff_eq]; exact ht), col_cons]
        · rw [if_neg hp, if_neg (by rw [beq_iff_eq]; exact fun h => hp (Int.ofNat.inj (h.symm.trans ht))), Int.zero_add]
      rw [e1]
      simp only [e2]
      rw [isum_add, isum_single P t _ (by have h2 : ((t : Nat) : Int) < (P : Int) := ht ▸ hd2; omega)]
      omega

theorem arr_spec {n : Nat} {q : List Ld} (hq : AllFit q n) (hs : tsum q ≤ 1125899906842624) (hour : Int) (P p : Nat) (hp : p < P) :
    ((arr q hour P n).getD p []).length = n ∧ Fit ((arr q hour P n).getD p []) ∧ ∀ j, ((arr q hour P n).getD p []).getD j 0 = col j (at_ q hour P p) := by
  unfold arr
  rw [getD_map_range _ _ _ _ hp, acc_fold]
  obtain ⟨f1, f2, f3⟩ := fit_rep n
  have hle := tsum_filter_le (fun l => dueB hour P l && ((l.2.1 : Int) == (p : Int))) hq
  obtain ⟨z1, z2, z3, z4⟩ := zfold_spec (at_ q hour P p) (List.replicate n 0) (hq.sub fun l hl => (List.mem_filter.1 hl).1) (by simp) f1 (by rw [f2]; unfold at_; omega)
  exact ⟨z1, z2, fun j => by rw [z4, f3, Int.zero_add]⟩

/-- The sums by owner, as the statement reckons them. -/
theorem totals_loop6_is (q : List Ld) (n i : Nat) (hi : i < q.length) (hn : n ≤ 64) (part : List Int) (hpp : (List.getD q i (Ty.zero t_api_Load)).snd.snd.fst = part) (hl : part.length = n) :
    ∀ (k j : Nat) (s : List Int), n < j + k → j ≤ n → s.length = n → (∀ m, j ≤ m → InR (s.getD m 0 + part.getD m 0)) →
      ∃ r, totals_loop6 k q (n : Int) (i : Int) (j : Int) s = some (q, (n : Int), (i : Int), r) ∧ r.length = n ∧ ∀ m, r.getD m 0 = if j ≤ m ∧ m < n then s.getD m 0 + part.getD m 0 else s.getD m 0 := by
  intro k
  induction k with
  | zero => intro j s h hj; omega
  | succ k ih =>
    intro j s h hj hs hr
    unfold totals_loop6 totals_loop6_step
    rw [Int.toNat_natCast, Int.toNat_natCast, Nat.zero_add, inb _ _ hi, hpp]
    by_cases hjn : j < n
    · have hj' : (j : Int) < (n : Int) := by omega
      rw [hs, hl, inb _ _ hjn]
      simp only [hj', decide_true, cond_true]
      rw [wi_of (hr j (Nat.le_refl _)), wi_id ((j : Int) + 1) (by omega) (by omega)]
      obtain ⟨r, g1, g2, g3⟩ := ih (j + 1) (s.set j (s.getD j 0 + part.getD j 0)) (by omega) (by omega) (by rw [List.length_set]; exact hs) (fun m hm => by
        rw [getD_set, if_neg (by omega)]; exact hr m (by omega))
      refine ⟨r, g1, g2, fun m => ?_⟩
      rw [g3, getD_set]
      by_cases hm : j = m
      · subst hm; rw [if_neg (by omega), if_pos ⟨rfl, by omega⟩, if_pos ⟨Nat.le_refl _, hjn⟩]
      · by_cases hm2 : j + 1 ≤ m ∧ m < n
        · rw [if_pos hm2, if_neg (fun h => hm h.1), if_pos (by omega)]
        · rw [if_neg hm2, if_neg (fun h => hm h.1), if_neg (by omega)]
    · have hj' : ¬ (j : Int) < (n : Int) := by omega
      simp only [hj', decide_false, cond_false]
      exact ⟨s, rfl, hs, fun m => by rw [if_neg (by omega)]⟩

theorem totals_loop3_is (q : List Ld) (n : Nat) (hq : AllFit q n) (hql : q.length ≤ 100) (hn : n ≤ 16) : ∀ (k i : Nat) (s : List Int), q.length < i + k → i ≤ q.length → s.length = n → (∀ m, 0 ≤ s.getD m 0 ∧ s.getD m 0 + col m (q.drop i) ≤ 2251799813685248) →
    ∃ r, totals_loop3 k q (n : Int) (i : Int) s = some r ∧ r.length = n ∧ ∀ m, r.getD m 0 = s.getD m 0 + col m (q.drop i) := by
  intro k
  induction k with
  | zero => intro i s h hi; omega
  | succ k ih =>
    intro i s h hi0 hs hle
    unfold totals_loop3 totals_loop3_step
    by_cases hi : i < q.length
    · have hm := hq _ (getD_mem q i (Ty.zero t_api_Load) hi)
      have hsub : AllFit (q.drop (i + 1)) n := hq.sub fun l hl => List.mem_of_mem_drop hl
      rw [drop_cons q i (Ty.zero t_api_Load) hi] at hle ⊢
      generalize hpp : (List.getD q i (Ty.zero t_api_Load)) = l at *
      have hi' : (i : Int) < (q.length : Int) := by omega
      obtain ⟨r, g1, g2, g3⟩ := totals_loop6_is q n i hi (by omega) l.2.2.1 (by rw [hpp]) hm.1 FUEL 0 s (fuel_gt _ (by omega)) (by omega) hs (fun m _ => by
        have h1 := hle m; have h2 := Fit_getD hm.2 m; have h3 := (col_le m hsub).1; rw [col_cons] at h1; unfold InR; omega)
      have g1' : totals_loop6 FUEL q (n : Int) (i : Int) 0 s = _ := g1
      simp only [hi', decide_true, cond_true, g1', Option.bind_some]
      rw [wi_id ((i : Int) + 1) (by omega) (by omega)]
      have hr : ∀ m, r.getD m 0 = s.getD m 0 + l.2.2.1.getD m 0 := fun m => by
        rw [g3]
        by_cases h : m < n
        · rw [if_pos ⟨by omega, h⟩]
        · rw [if_neg (fun hh => h hh.2), getD_far l.2.2.1 m (by omega), Int.add_zero]
      obtain ⟨r2, y1, y2, y3⟩ := ih (i + 1) r (by omega) (by omega) g2 (fun m => by
        have h1 := hle m; have h2 := Fit_getD hm.2 m; rw [col_cons] at h1; rw [hr]; omega)
      refine ⟨r2, y1, y2, fun m => ?_⟩
      rw [y3, hr, col_cons]; omega
    · have hi' : ¬ (i : Int) < (q.length : Int) := by omega
      rw [(List.drop_eq_nil_of_le (by omega) : q.drop i = [])]
      simp only [hi', decide_false, cond_false]
      exact ⟨s, rfl, hs, fun m => by show _ = _ + (0 : Int); omega⟩

theorem totals_eq (q : List Ld) (n : Nat) (hq : AllFit q n) (hql : q.length ≤ 100) (hn : n ≤ 16) (hs : tsum q ≤ 1125899906842624) :
    ∃ r, totals q (n : Int) = some r ∧ r.length = n ∧ ∀ m, r.getD m 0 = col m q := by
  unfold totals totals_body
  rw [room4 (by omega) (by omega), cond_true, bind_eta, Int.toNat_natCast]
  obtain ⟨f1, f2, f3⟩ := fit_rep n
  obtain ⟨r, g1, g2, g3⟩ := totals_loop3_is q n hq hql hn FUEL 0 (List.replicate n 0) (fuel_gt _ (by omega)) (by omega) (by simp) (fun m => by
    rw [f3, List.drop_zero]; have := col_le m hq; omega)
  exact ⟨r, g1, g2, fun m => by rw [g3, f3, List.drop_zero]; omega⟩

theorem ints_refl (a : List Int) (hl : a.length ≤ 9223372036854775807) : ints a a = some true := by
  unfold ints ints_body
  rw [bne_self_eq_false, cond_false]
  have g : ∀ (k i : Nat), a.length < i + k → i ≤ a.length → ints_loop4 k a a i = some (.inl ()) := by
    intro k
    induction k with
    | zero => intro i h hi; omega
    | succ k ih =>
      intro i h hi0
      unfold ints_loop4 ints_loop4_step
      by_cases hi : i < a.length
      · rw [inb _ _ hi, bne_self_eq_false]
        have hi' : (i : Int) < (a.length : Int) := by omega
        simp only [hi', decide_true, cond_true, cond_false, wi_id ((i : Int) + 1) (by omega) (by omega)]
        exact ih (i + 1) (by omega) (by omega)
      · have hi' : ¬ (i : Int) < (a.length : Int) := by omega
        simp only [hi', decide_false, cond_false]
  have g' : ints_loop4 FUEL a a 0 = _ := g FUEL 0 (fuel_gt _ hl) (by omega)
  rw [g']; rfl

theorem loads_refl (a : List Ld) (hl : a.length ≤ 9223372036854775807) (hs : ∀ x, x ∈ a → x.2.2.1.length ≤ 9223372036854775807) : loads a a = some true := by
  unfold loads loads_body
  rw [bne_self_eq_false, cond_false]
  have g : ∀ (k i : Nat), a.length < i + k → i ≤ a.length → loads_loop4 ints k a a i = some (.inl ()) := by
    intro k
    induction k with
    | zero => intro i h hi; omega
    | succ k ih =>
      intro i h hi0
      unfold loads_loop4 loads_loop4_step
      rw [Int.toNat_natCast]
      by_cases hi : i < a.length
      · rw [inb _ _ hi]
        have hm := hs _ (getD_mem a i (Ty.zero t_api_Load) hi)
        have hi' : (i : Int) < (a.length : Int) := by omega
        simp only [hi', decide_true, cond_true, cond_false, wi_id ((i : Int) + 1) (by omega) (by omega), bne_self_eq_false, ints_refl _ hm, Option.bind_some, Bool.not_true]
        exact ih (i + 1) (by omega) (by omega)
      · have hi' : ¬ (i : Int) < (a.length : Int) := by omega
        simp only [hi', decide_false, cond_false]
  have g' : loads_loop4 ints FUEL a a 0 = _ := g FUEL 0 (fuel_gt _ hl) (by omega)
  rw [g']; rfl
end Go.Lift.S18
