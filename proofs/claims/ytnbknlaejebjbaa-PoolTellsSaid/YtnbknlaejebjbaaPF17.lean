import Derived.Test.YtnbknlaejebjbaaPQ17
set_option linter.all false
/- Right pools. -/
set_option linter.unusedSimpArgs false
set_option linter.unusedVariables false
namespace Go.Lift.S17
open Go Go.Lift Go.Lift.Ar

theorem Fit_le {l : List Int} (h : Fit l) : ∀ x, x ∈ l → 0 ≤ x ∧ x ≤ 1125899906842624 := by
  intro x hx
  refine ⟨h.1 x hx, ?_⟩
  have h2 := h.2
  obtain ⟨a, b, rfl⟩ := List.append_of_mem hx
  rw [isum_append] at h2
  have h3 := isum_nonneg (l := a) (fun y hy => h.1 y (by simp [hy]))
  have h4 := isum_nonneg (l := b) (fun y hy => h.1 y (by simp [hy]))
  simp only [isum] at h2
  omega
theorem Fit_in {l : List Int} (h : Fit l) : ∀ x, x ∈ l → InR x := fun x hx => by have := Fit_le h x hx; unfold InR; omega
theorem Fit_getD {l : List Int} (h : Fit l) (i : Nat) : 0 ≤ l.getD i 0 ∧ l.getD i 0 ≤ 1125899906842624 := by
  by_cases hi : i < l.length
  · exact Fit_le h _ (getD_mem l i 0 hi)
  · rw [getD_far l i (by omega)]; omega

theorem isum_zip : ∀ (a b : List Int), a.length = b.length → isum (List.zipWith (· + ·) a b) = isum a + isum b
  | [], [], _ => by simp [isum]
  | x :: a, y :: b, h => by
    have := isum_zip a b (by simpa using h)
    simp only [List.zipWith_cons_cons, isum, this]; omega

theorem zs_zip {a b : List Int} (h : a.length = b.length) (hb : ∀ i, InR (a.getD i 0 + b.getD i 0)) : zs a b = List.zipWith (· + ·) a b := by
  refine ext_getD (by rw [zs_len, List.length_zipWith, h]; simp [Nat.max_def, Nat.min_def]) fun i hi => ?_
  rw [zs_getD, sat_of (hb i)]
  rw [zs_len] at hi
  have hi2 : i < b.length := by rw [h] at hi; simpa [Nat.max_def] using hi
  simp only [List.getD_eq_getElem?_getD, List.getElem?_zipWith, List.getElem?_eq_getElem hi2, List.getElem?_eq_getElem (show i < a.length by omega), Option.getD_some]

theorem zs_Fit {a b : List Int} (h : a.length = b.length) (ha : Fit a) (hb : Fit b) : isum (zs a b) = isum a + isum b ∧ (∀ x, x ∈ zs a b → 0 ≤ x) ∧ (zs a b).length = b.length ∧ ∀ i, (zs a b).getD i 0 = a.getD i 0 + b.getD i 0 := by
  have hin : ∀ i, InR (a.getD i 0 + b.getD i 0) := fun i => by
    have := Fit_getD ha i; have := Fit_getD hb i; unfold InR; omega
  refine ⟨by rw [zs_zip h hin, isum_zip a b h], fun x hx => ?_, by rw [zs_len, h]; simp [Nat.max_def], fun i => by rw [zs_getD, sat_of (hin i)]⟩
  simp only [zs, List.mem_map] at hx
  obtain ⟨i, _, rfl⟩ := hx
  rw [sat_of (hin i)]
  have := Fit_getD ha i; have := Fit_getD hb i; omega

end Go.Lift.S17
