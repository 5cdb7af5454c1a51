import Derived.Test.YtnbknlaejebjbaaPU17
set_option linter.all false
/- pool.Take. -/
set_option linter.unusedSimpArgs false
set_option linter.unusedVariables false
namespace Go.Lift.S17
open Go Go.Lift Go.Lift.Ar

theorem isum_perm {a b : List Int} (h : a.Perm b) : isum a = isum b := by
  induction h with
  | nil => rfl
  | cons x _ ih => simp only [isum, ih]
  | swap x y l => simp only [isum]; omega
  | trans _ _ h1 h2 => exact h1.trans h2

theorem map_wt (R : List Int) : (idn R.length).map (wt R) = R := by
  refine ext_getD (by simp [idn]) fun i hi => ?_
  have hi' : i < R.length := by simpa [idn] using hi
  unfold idn
  rw [List.map_map, getD_map_range _ _ _ _ hi']
  rfl

theorem isum_le_len {l : List Int} {s : Int} (h : ∀ x, x ∈ l → x ≤ s) : isum l ≤ (l.length : Int) * s := by
  induction l with
  | nil => simp [isum]
  | cons x l ih =>
    have := h x (by simp)
    have := ih (fun y hy => h y (by simp [hy]))
    simp only [isum, List.length_cons]
    rw [Int.natCast_add, Int.add_mul]; omega

theorem isum_zero {l : List Int} (h : ∀ x, x ∈ l → x = 0) : isum l = 0 := by
  induction l with
  | nil => rfl
  | cons x l ih => simp only [isum, h x (by simp), ih (fun y hy => h y (by simp [hy]))]; rfl

theorem isum_ones {l : List Int} (h : ∀ x, x ∈ l → x = 1) : isum l = (l.length : Int) := by
  induction l with
  | nil => rfl
  | cons x l ih => simp only [isum, h x (by simp), ih (fun y hy => h y (by simp [hy])), List.length_cons]; omega

/-- Those that come first have a remainder. -/
theorem first_pos {R d : List Int} {n left : Nat} {T : Int} (hS : Srt R d n) (hn : R.length = n) (hl : left ≤ n) (hT : 0 < T) (hR : ∀ x, x ∈ R → 0 ≤ x ∧ x < T) (hsum : (left : Int) * T = isum R) (s : Nat) (hs : s < left) : 0 < wt R (d.getD s 0) := by
  obtain ⟨h1, h2, h3⟩ := hS
  have hw : ∀ v, v ∈ d → 0 ≤ wt R v ∧ wt R v < T := fun v hv => by
    have hb := mem_idn.1 (h2.mem_iff.1 hv)
    exact hR _ (getD_mem R v.toNat 0 (by omega))
  rcases Int.lt_or_le 0 (wt R (d.getD s 0)) with h | h
  · exact h
  · exfalso
    have hz : ∀ q, s ≤ q → q < n → wt R (d.getD q 0) = 0 := fun q hq1 hq2 => by
      have hq0 := (hw _ (getD_mem d q 0 (by omega))).1
      have hs0 := (hw _ (getD_mem d s 0 (by omega))).1
      by_cases e : s = q
      · subst e; omega
      · have := h3 s q (by omega) hq2
        unfold bef at this; omega
    have e1 : isum R = isum (d.map (wt R)) := by
      have h4 := isum_perm (h2.map (wt R))
      rw [h4, ← hn, map_wt]
    have e2 : isum (d.map (wt R)) = isum ((d.take s).map (wt R)) + isum ((d.drop s).map (wt R)) := by
      rw [← isum_append, ← List.map_append, List.take_append_drop]
    have e3 : isum ((d.drop s).map (wt R)) = 0 := isum_zero fun x hx => by
      obtain ⟨v, hv, rfl⟩ := List.mem_map.1 hx
      obtain ⟨q, hq, rfl⟩ := List.getElem_of_mem hv
      rw [List.getElem_drop]
      rw [List.length_drop] at hq
      have := hz (s + q) (by omega) (by omega)
      rw [List.getD_eq_getElem?_getD, List.getElem?_eq_getElem (by omega)] at this
      exact this
    have e4 := isum_le_len (l := (d.take s).map (wt R)) (s := T - 1) (fun x hx => by
      obtain ⟨v, hv, rfl⟩ := List.mem_map.1 hx
      have := (hw v (List.mem_of_mem_take hv)).2; omega)
    have hlen : ((d.take s).map (wt R)).length = s := by rw [List.length_map, List.length_take]; omega
    rw [hlen] at e4
    have e5 : (s : Int) * (T - 1) ≤ ((left : Int) - 1) * (T - 1) := Int.mul_le_mul_of_nonneg_right (by omega) (by omega)
    have e6 : ((left : Int) - 1) * (T - 1) = (left : Int) * T - left - T + 1 := by grind
    omega

theorem count_take {d : List Int} {n left : Nat} (hp : d.Perm (idn n)) (hl : left ≤ n) : isum ((List.range n).map fun i : Nat => if (i : Int) ∈ d.take left then (1 : Int) else 0) = (left : Int) := by
  have hdl : d.length = n := by rw [hp.length_eq, idn_length]
  have hnd : d.Nodup := hp.nodup_iff.2 (idn_nodup _)
  have e0 : (List.range n).map (fun i : Nat => if (i : Int) ∈ d.take left then (1 : Int) else 0) = (idn n).map fun v => if v ∈ d.take left then (1 : Int) else 0 := by
    unfold idn; rw [List.map_map]; rfl
  rw [e0, ← isum_perm (hp.map _)]
  have e2 : ∀ f : Int → Int, isum (d.map f) = isum ((d.take left).map f) + isum ((d.drop left).map f) := fun f => by
    rw [← isum_append, ← List.map_append, List.take_append_drop]
  rw [e2, isum_ones (l := (d.take left).map _) (fun x hx => by
    obtain ⟨v, hv, rfl⟩ := List.mem_map.1 hx
    rw [if_pos hv]), isum_zero (l := (d.drop left).map _) (fun x hx => by
    obtain ⟨v, hv, rfl⟩ := List.mem_map.1 hx
    have hdis : v ∉ d.take left := fun h => by
      have := hnd
      rw [← List.take_append_drop left d, List.nodup_append] at this
      exact this.2.2 v h v hv rfl
    rw [if_neg hdis]), List.length_map, List.length_take]
  omega

def nearP (part w m T : Int) : Prop := part = m * w / T ∨ (part = m * w / T + 1 ∧ 0 < m * w % T)

/-- What Take takes. -/
theorem take_is (p : List Int) (n : Int) (hp : p.length ≤ 16) (hf : Fit p) (hn : 0 ≤ n) :
    ∃ a, take p n = some (a, ds p a) ∧ a.length = p.length ∧ (∀ i, 0 ≤ a.getD i 0 ∧ a.getD i 0 ≤ p.getD i 0) ∧ isum a = (if isum p < n then isum p else n) ∧
      (0 < isum p → ∀ i, i < p.length → nearP (a.getD i 0) (p.getD i 0) (if isum p < n then isum p else n) (isum p)) := by
  have hW : AllW p := Fit_le hf
  have hT0 := isum_nonneg hf.1
  have hT1 := hf.2
  have zlen : (List.replicate p.length (0 : Int)).length = p.length := by simp
  have zget : ∀ i, (List.replicate p.length (0 : Int)).getD i 0 = 0 := fun i => by
    by_cases h : i < p.length
    · exact getD_replicate _ _ _ _ h
    · exact getD_far _ _ (by simp; omega)
  have zsum : isum (List.replicate p.length (0 : Int)) = 0 := isum_zero fun x hx => (List.mem_replicate.1 hx).2
  have hless : ∀ a : List Int, a.length = p.length → (∀ i, 0 ≤ a.getD i 0 ∧ a.getD i 0 ≤ p.getD i 0) → less p a = some (ds p a) := fun a ha hb =>
    less_eq p a (by omega) (by omega) (fun j => by have := hb j; have := Fit_getD hf j; unfold InR; omega)
  have zok : ∀ i, 0 ≤ (List.replicate p.length (0 : Int)).getD i 0 ∧ (List.replicate p.length (0 : Int)).getD i 0 ≤ p.getD i 0 := fun i => by
    rw [zget]; have := Fit_getD hf i; omega
  unfold take take_body
  rw [room4 (by omega) (by omega), cond_true, Int.toNat_natCast]
  by_cases h0 : n > 0
  · rw [decide_eq_true h0, cond_true, right_eq p (Fit_in hf) (by omega), decide_eq_true hf, total_eq p (Fit_in hf) (by omega), tot_nonneg p hf.1 (by omega)]
    simp only [Option.bind_some, cond_true]
    obtain ⟨m, hm⟩ : ∃ m, m = (if isum p < n then isum p else n) := ⟨_, rfl⟩
    have hm0 : 0 ≤ m ∧ m ≤ isum p := by rw [hm]; split <;> omega
    rw [← hm]
    rcases Int.lt_or_le 0 (isum p) with hpos | hz
    · obtain ⟨d, parts, left, s1, s2, s3, s4, s5, s6, s7⟩ := share_ok m p hW (by omega) hT1 hm0.1 hm0.2 hpos (sortStable_few _ _ (by simp [rs]) (by omega))
      have hRl : (rs m (isum p) p).length = p.length := by simp [rs]
      have hRb : ∀ x, x ∈ rs m (isum p) p → 0 ≤ x ∧ x < isum p := fun x hx => by
        obtain ⟨y, _, rfl⟩ := List.mem_map.1 hx
        exact ⟨Int.emod_nonneg _ (by omega), Int.emod_lt_of_pos _ hpos⟩
      have hfirst : ∀ i : Nat, (i : Int) ∈ d.take left → 0 < m * p.getD i 0 % isum p := fun i hi => by
        obtain ⟨s, hs, e⟩ := List.getElem_of_mem hi
        rw [List.length_take] at hs
        rw [List.getElem_take] at e
        have hdl := s1.1
        have := first_pos s1 hRl s2 hpos hRb s4 s (by omega)
        rw [List.getD_eq_getElem?_getD, List.getElem?_eq_getElem (by omega)] at this
        simp only [Option.getD_some] at this
        rw [e] at this
        unfold wt at this
        rw [Int.toNat_natCast, rs_getD] at this
        exact this
      have hq : ∀ i, 0 ≤ m * p.getD i 0 / isum p ∧ m * p.getD i 0 / isum p ≤ p.getD i 0 ∧ (0 < m * p.getD i 0 % isum p → m * p.getD i 0 / isum p + 1 ≤ p.getD i 0) := fun i => by
        have hpi := (Fit_getD hf i).1
        obtain ⟨a1, a2⟩ := q_le hm0.1 hm0.2 hpos hpi
        refine ⟨a1, a2, fun hr => ?_⟩
        have e := Int.mul_ediv_add_emod (m * p.getD i 0) (isum p)
        have h1 : m * p.getD i 0 ≤ isum p * p.getD i 0 := Int.mul_le_mul_of_nonneg_right hm0.2 hpi
        have h2 : isum p * (m * p.getD i 0 / isum p) < isum p * p.getD i 0 := by omega
        have := Int.lt_of_mul_lt_mul_left h2 (by omega)
        omega
      have hb : ∀ i, 0 ≤ parts.getD i 0 ∧ parts.getD i 0 ≤ p.getD i 0 := fun i => by
        rw [s7]
        have := hq i
        by_cases hi : (i : Int) ∈ d.take left
        · rw [if_pos hi]; have := this.2.2 (hfirst i hi); omega
        · rw [if_neg hi]; omega
      rw [s5]
      simp only [Option.bind_some, cond_true, hless parts s6 hb]
      refine ⟨parts, rfl, s6, hb, ?_, fun _ i _ => ?_⟩
      · have e : parts = (List.range p.length).map fun i : Nat => m * p.getD i 0 / isum p + (if (i : Int) ∈ d.take left then (1 : Int) else 0) := by
          refine ext_getD (by simp [s6]) fun i hi => ?_
          rw [s7, getD_map_range _ _ _ _ (by omega)]
        have e2 : (List.range p.length).map (fun i : Nat => m * p.getD i 0 / isum p) = qs m (isum p) p := by
          refine ext_getD (by simp [qs]) fun i hi => ?_
          rw [getD_map_range _ _ _ _ (by simpa using hi), qs_getD]
        have e3 : ∀ (l : List Nat) (f g : Nat → Int), isum (l.map fun x => f x + g x) = isum (l.map f) + isum (l.map g) := fun l f g => by
          induction l with
          | nil => rfl
          | cons x l ih => simp only [List.map_cons, isum, ih]; omega
        rw [e, e3, e2, count_take s1.2.1 s2, s3]; omega
      · unfold nearP
        rw [s7]
        by_cases hi : (i : Int) ∈ d.take left
        · rw [if_pos hi]; exact .inr ⟨rfl, hfirst i hi⟩
        · rw [if_neg hi]; exact .inl (by omega)
    · have hz' : isum p = 0 := by omega
      have hmz : m = 0 := by omega
      rw [hmz, share_zero p hW (by omega) hz']
      simp only [Option.bind_some, cond_true, hless _ zlen zok]
      exact ⟨_, rfl, zlen, zok, zsum, fun h => by omega⟩
  · rw [decide_eq_false h0, cond_false]
    simp only [Option.bind_some, cond_false, hless _ zlen zok]
    have hn0 : n = 0 := by omega
    have hm : (if isum p < n then isum p else n) = 0 := by rw [hn0, if_neg (by omega)]
    rw [hm]
    refine ⟨_, rfl, zlen, zok, zsum, fun _ i _ => .inl ?_⟩
    rw [zget, Int.zero_mul, Int.zero_ediv]
end Go.Lift.S17
