import Derived.Test.YthomehfmoddgjaaPU18
set_option linter.all false
/- What the statements' test of a queue says. -/
set_option linter.unusedSimpArgs false
set_option linter.unusedVariables false
namespace Go.Lift.S18
open Go Go.Lift Go.Lift.Ar

theorem Fit_le {l : List Int} (h : Fit l) : ∀ x, x ∈ l → 0 ≤ x ∧ x ≤ 1125899906842624 := by
  intro x hx
  refine ⟨h.1 x hx, ?_⟩
  have h2 := h.2
  obtain ⟨a, b, rfl⟩ := List.append_of_mem hx
  rw [isum_append] at h2
  have h3 := isum_nonneg (l := a) (fun y hy => h.1 y (by simp [hy]))
  have h4 := isum_nonneg (l := b) (fun y hy => h.1 y (by simp [hy]))
  simp only [isum] at h2
  omega
theorem Fit_in {l : List Int} (h : Fit l) : ∀ x, x ∈ l → InR x := fun x hx => by have := Fit_le h x hx; unfold InR; omega
theorem Fit_getD {l : List Int} (h : Fit l) (i : Nat) : 0 ≤ l.getD i 0 ∧ l.getD i 0 ≤ 1125899906842624 := by
  by_cases hi : i < l.length
  · exact Fit_le h _ (getD_mem l i 0 hi)
  · rw [getD_far l i (by omega)]; omega

theorem isum_zip : ∀ (a b : List Int), a.length = b.length → isum (List.zipWith (· + ·) a b) = isum a + isum b
  | [], [], _ => by simp [isum]
  | x :: a, y :: b, h => by
    have := isum_zip a b (by simpa using h)
    simp only [List.zipWith_cons_cons, isum, this]; omega

theorem zs_zip {a b : List Int} (h : a.length = b.length) (hb : ∀ i, InR (a.getD i 0 + b.getD i 0)) : zs a b = List.zipWith (· + ·) a b := by
  refine ext_getD (by rw [zs_len, List.length_zipWith, h]; simp [Nat.max_def, Nat.min_def]) fun i hi => ?_
  rw [zs_getD, sat_of (hb i)]
  rw [zs_len] at hi
  have hi2 : i < b.length := by rw [h] at hi; simpa [Nat.max_def] using hi
  simp only [List.getD_eq_getElem?_getD, List.getElem?_zipWith, List.getElem?_eq_getElem hi2, List.getElem?_eq_getElem (show i < a.length by omega), Option.getD_some]

theorem zs_Fit {a b : List Int} (h : a.length = b.length) (ha : Fit a) (hb : Fit b) : isum (zs a b) = isum a + isum b ∧ (∀ x, x ∈ zs a b → 0 ≤ x) ∧ (zs a b).length = b.length ∧ ∀ i, (zs a b).getD i 0 = a.getD i 0 + b.getD i 0 := by
  have hin : ∀ i, InR (a.getD i 0 + b.getD i 0) := fun i => by
    have := Fit_getD ha i; have := Fit_getD hb i; unfold InR; omega
  refine ⟨by rw [zs_zip h hin, isum_zip a b h], fun x hx => ?_, by rw [zs_len, h]; simp [Nat.max_def], fun i => by rw [zs_getD, sat_of (hin i)]⟩
  simp only [zs, List.mem_map] at hx
  obtain ⟨i, _, rfl⟩ := hx
  rw [sat_of (hin i)]
  have := Fit_getD ha i; have := Fit_getD hb i; omega

/-- All litres of a queue. -/
def tsum (q : List Ld) : Int := isum (q.map fun l => isum l.2.2.1)

/-- A queue that the statements take. -/
def Good (q : List Ld) (n : Nat) : Prop := (∀ l, l ∈ q → l.2.2.1.length = n ∧ Fit l.2.2.1) ∧ tsum q ≤ 1125899906842624

theorem tsum_cons (l : Ld) (q : List Ld) : tsum (l :: q) = isum l.2.2.1 + tsum q := rfl
theorem tsum_nonneg {q : List Ld} (h : ∀ l, l ∈ q → Fit l.2.2.1) : 0 ≤ tsum q := by
  unfold tsum
  refine isum_nonneg fun x hx => ?_
  obtain ⟨l, hl, rfl⟩ := List.mem_map.1 hx
  exact isum_nonneg (h l hl).1

theorem lright_loop_is (q : List Ld) (hq : Qu q) (o : Nat) (ho : o ≤ 16) : ∀ (k i : Nat) (s : List Int), q.length < i + k → i ≤ q.length → s.length = o → Fit s →
    lright_loop3 right_ padd k q (o : Int) s i = some (.inl ()) ∧ ((∀ l, l ∈ q.drop i → l.2.2.1.length = o ∧ Fit l.2.2.1) ∧ isum s + tsum (q.drop i) ≤ 1125899906842624) ∨ lright_loop3 right_ padd k q (o : Int) s i = some (.inr false) := by
  have hq1 := hq.1
  intro k
  induction k with
  | zero => intro i s h hi; omega
  | succ k ih =>
    intro i s h hi0 hsl hs
    unfold lright_loop3 lright_loop3_step
    rw [Int.toNat_natCast]
    by_cases hi : i < q.length
    · have hm := hq.2 _ (getD_mem q i (Ty.zero t_api_Load) hi)
      rw [drop_cons q i (Ty.zero t_api_Load) hi, inb _ _ hi]
      generalize List.getD q i (Ty.zero t_api_Load) = l at *
      have hi' : (i : Int) < (q.length : Int) := by omega
      have r1 : right_ l.snd.snd.fst (o : Int) = _ := right__eq l.2.2.1 (o : Int) hm.2 (by have := hm.1; omega)
      simp only [hi', decide_true, cond_true, r1, Option.bind_some, wi_id ((i : Int) + 1) (by omega) (by omega)]
      by_cases hc : (0 : Int) ≤ (o : Int) ∧ (o : Int) ≤ 16 ∧ (l.2.2.1.length : Int) = (o : Int) ∧ Fit l.2.2.1
      · have hc' := hc
        obtain ⟨_, _, hlen, hfit⟩ := hc
        rw [decide_eq_true hc']
        have ha : padd s l.snd.snd.fst = some (zs s l.2.2.1) := padd_pl ⟨by omega, Fit_in hs⟩ hm
        simp only [Bool.not_true, cond_false, ha, Option.bind_some]
        have hlen2 : s.length = l.2.2.1.length := by omega
        obtain ⟨z1, z2, z3, z4⟩ := zs_Fit hlen2 hs hfit
        have r2 := right__eq (zs s l.2.2.1) (o : Int) (zs_in _ _) (by rw [z3]; omega)
        rw [r2]
        simp only [Option.bind_some]
        by_cases hc2 : (0 : Int) ≤ (o : Int) ∧ (o : Int) ≤ 16 ∧ ((zs s l.2.2.1).length : Int) = (o : Int) ∧ Fit (zs s l.2.2.1)
        · rw [decide_eq_true hc2]
          simp only [Bool.not_true, cond_false]
          rcases ih (i + 1) (zs s l.2.2.1) (by omega) (by omega) (by omega) hc2.2.2.2 with ⟨g1, g2, g3⟩ | g
          · refine .inl ⟨g1, ⟨fun m hm => ?_, ?_⟩⟩
            · rcases List.mem_cons.1 hm with rfl | hm
              · exact ⟨by omega, hfit⟩
              · exact g2 m hm
            · rw [tsum_cons]; rw [z1] at g3; omega
          · exact .inr g
        · rw [decide_eq_false hc2]
          exact .inr rfl
      · rw [decide_eq_false hc]
        exact .inr rfl
    · have hi' : ¬ (i : Int) < (q.length : Int) := by omega
      rw [(List.drop_eq_nil_of_le (by omega) : q.drop i = [])]
      simp only [hi', decide_false, cond_false]
      exact .inl ⟨trivial, fun l hl => (by cases hl), by have := hs.2; simp [tsum, isum]; omega⟩

theorem lright_eq (q : List Ld) (hq : Qu q) (o : Int) (ho : 0 ≤ o) (ho2 : o ≤ 16) : ∃ b, lright q o = some b ∧ (b = true → Good q o.toNat) := by
  obtain ⟨n, rfl⟩ := Int.eq_ofNat_of_zero_le ho
  unfold lright lright_body
  have e : (if (0 : Int) > (n : Int) then (0 : Int) else (n : Int)) = (n : Int) := by rw [if_neg (by omega)]
  rw [e, room4 (by omega) (by omega), cond_true, Int.toNat_natCast]
  have hz : Fit (List.replicate n 0) := by
    refine ⟨fun x hx => by rw [(List.mem_replicate.1 hx).2]; omega, ?_⟩
    have : ∀ n : Nat, isum (List.replicate n 0) = 0 := fun n => by
      induction n with
      | zero => rfl
      | succ n ih => simp only [List.replicate_succ, isum, ih]; rfl
    rw [this]; omega
  have hz0 : isum (List.replicate n 0) = 0 := by
    induction n with
    | zero => rfl
    | succ n ih => clear ih; exact (fun n => (Nat.rec rfl (fun n ih => by simp only [List.replicate_succ, isum, ih]; rfl) n : isum (List.replicate n 0) = 0)) (n + 1)
  rcases lright_loop_is q hq n (by omega) FUEL 0 (List.replicate n 0) (fuel_gt _ (by have := hq.1; omega)) (by omega) (by simp) hz with ⟨g1, g2, g3⟩ | g
  · have g1' : lright_loop3 right_ padd FUEL q (n : Int) (List.replicate n 0) 0 = _ := g1
    rw [g1']
    refine ⟨true, rfl, fun _ => ?_⟩
    rw [List.drop_zero] at g2 g3
    exact ⟨g2, by rw [hz0] at g3; omega⟩
  · have g' : lright_loop3 right_ padd FUEL q (n : Int) (List.replicate n 0) 0 = _ := g
    rw [g']
    exact ⟨false, rfl, fun h => by cases h⟩

/-- The litres under way to an office. -/
def usum (b : t_api_Basin.den) (o : Int) (q : List Ld) : Int := isum (q.map fun l => if inOffice b o l = true then isum l.2.2.1 else 0)

theorem usum_le {b : t_api_Basin.den} {o : Int} : ∀ {q : List Ld}, (∀ l, l ∈ q → Fit l.2.2.1) → 0 ≤ usum b o q ∧ usum b o q ≤ tsum q
  | [], _ => by simp [usum, tsum, isum]
  | l :: q, h => by
    have ⟨h1, h2⟩ := usum_le (b := b) (o := o) (q := q) (fun m hm => h m (by simp [hm]))
    have h3 := isum_nonneg (h l (by simp)).1
    simp only [usum, tsum, List.map_cons, isum] at *
    split <;> omega

theorem und_fold {b : t_api_Basin.den} {o : Int} : ∀ (q : List Ld) (s : Int), (∀ l, l ∈ q → Fit l.2.2.1) → 0 ≤ s → s + tsum q ≤ 2251799813685248 → q.foldl (und b o) s = s + usum b o q
  | [], s, _, _, _ => by simp [usum, isum]
  | l :: q, s, h, hs, hle => by
    have hl := h l (by simp)
    have h3 := isum_nonneg hl.1
    have hq := tsum_nonneg (q := q) (fun m hm => h m (by simp [hm]))
    rw [tsum_cons] at hle
    rw [List.foldl_cons]
    have e : und b o s l = s + (if inOffice b o l = true then isum l.2.2.1 else 0) := by
      unfold und
      split
      · rw [tot_nonneg _ hl.1 (by have := hl.2; omega), sat_of (by have := hl.2; unfold InR; omega)]
      · omega
    rw [e, und_fold q _ (fun m hm => h m (by simp [hm])) (by split <;> omega) (by split <;> omega)]
    simp only [usum, List.map_cons, isum]
    omega
end Go.Lift.S18
