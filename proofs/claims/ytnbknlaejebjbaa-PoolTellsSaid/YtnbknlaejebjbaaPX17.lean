import Derived.Test.YtnbknlaejebjbaaPW17
set_option linter.all false
/- The statements PoolSplits and PoolMerges. -/
set_option linter.unusedSimpArgs false
set_option linter.unusedVariables false
namespace Go.Lift.S17
open Go Go.Lift Go.Lift.Ar

theorem same_refl (a : List Int) (hl : a.length ≤ 9223372036854775807) : same a a = some true := by
  unfold same same_body
  rw [bne_self_eq_false, cond_false]
  have g : ∀ (k i : Nat), a.length < i + k → i ≤ a.length → same_loop4 k a a i = some (.inl ()) := by
    intro k
    induction k with
    | zero => intro i h hi; omega
    | succ k ih =>
      intro i h hi0
      unfold same_loop4 same_loop4_step
      by_cases hi : i < a.length
      · rw [inb _ _ hi, bne_self_eq_false]
        have hi' : (i : Int) < (a.length : Int) := by omega
        simp only [hi', decide_true, cond_true, cond_false, wi_id ((i : Int) + 1) (by omega) (by omega)]
        exact ih (i + 1) (by omega) (by omega)
      · have hi' : ¬ (i : Int) < (a.length : Int) := by omega
        simp only [hi', decide_false, cond_false]
  have g' : same_loop4 FUEL a a 0 = _ := g FUEL 0 (fuel_gt _ hl) (by omega)
  rw [g']; rfl

theorem isum_ds {p a : List Int} (h : a.length = p.length) : isum (ds p a) = isum p - isum a := by
  have e3 : ∀ (l : List Nat) (f g : Nat → Int), isum (l.map fun x => f x - g x) = isum (l.map f) - isum (l.map g) := fun l f g => by
    induction l with
    | nil => rfl
    | cons x l ih => simp only [List.map_cons, isum, ih]; omega
  have e : ∀ l : List Int, (List.range l.length).map (fun i => l.getD i 0) = l := fun l =>
    ext_getD (by simp) fun i hi => by rw [getD_map_range _ _ _ _ (by simpa using hi)]
  unfold ds
  rw [e3, e p]
  have : (List.range p.length).map (fun i => a.getD i 0) = a := by rw [← h]; exact e a
  rw [this]

theorem ds_Fit {p a : List Int} (hf : Fit p) (h : a.length = p.length) (hb : ∀ i, 0 ≤ a.getD i 0 ∧ a.getD i 0 ≤ p.getD i 0) : Fit (ds p a) := by
  refine ⟨fun x hx => ?_, ?_⟩
  · simp only [ds, List.mem_map] at hx
    obtain ⟨i, _, rfl⟩ := hx
    have := hb i; omega
  · rw [isum_ds h]
    have : 0 ≤ isum a := isum_nonneg fun x hx => by
      obtain ⟨i, hi, rfl⟩ := List.getElem_of_mem hx
      have := (hb i).1
      rw [List.getD_eq_getElem?_getD, List.getElem?_eq_getElem hi] at this
      exact this
    have := hf.2; omega

theorem sub_Fit {p a : List Int} (hf : Fit p) (h : a.length = p.length) (hb : ∀ i, 0 ≤ a.getD i 0 ∧ a.getD i 0 ≤ p.getD i 0) : Fit a := by
  have hn : ∀ x, x ∈ a → 0 ≤ x := fun x hx => by
    obtain ⟨i, hi, rfl⟩ := List.getElem_of_mem hx
    have := (hb i).1
    rw [List.getD_eq_getElem?_getD, List.getElem?_eq_getElem hi] at this
    exact this
  refine ⟨hn, ?_⟩
  have h1 := isum_ds h
  have h2 := isum_nonneg (ds_Fit hf h hb).1
  have := hf.2; omega

theorem right__fit {l : List Int} (hl : l.length ≤ 16) (hf : Fit l) (o : Int) (ho : o = (l.length : Int)) : right_ l o = some true := by
  rw [right__eq l o (Fit_in hf) (by omega), decide_eq_true ⟨by omega, by omega, ho.symm, hf⟩]

theorem total_fit {l : List Int} (hl : l.length ≤ 64) (h0 : ∀ x, x ∈ l → 0 ≤ x) (hs : isum l ≤ 4611686018427387904) : total l = some (isum l) := by
  have hin : ∀ x, x ∈ l → InR x := fun x hx => by
    have h1 := h0 x hx
    obtain ⟨a, b, rfl⟩ := List.append_of_mem hx
    rw [isum_append] at hs
    have h3 := isum_nonneg (l := a) (fun y hy => h0 y (by simp [hy]))
    have h4 := isum_nonneg (l := b) (fun y hy => h0 y (by simp [hy]))
    simp only [isum] at hs
    unfold InR; omega
  rw [total_eq l hin (by omega), tot_nonneg l h0 (by omega)]

theorem near_true {part w m T : Int} (hm : 0 ≤ m) (hmT : m ≤ T) (hT : 0 < T) (hTM : T ≤ 1125899906842624) (hw : 0 ≤ w) (hwM : w ≤ 1125899906842624) (h : nearP part w m T) : near part w m T = some true := by
  have hq := q_le hm hmT hT hw
  unfold near near_body
  rw [scale_eq, if_pos ⟨hm, by omega, hw, hwM, by omega, hTM, by omega⟩]
  simp only [Option.bind_some, cond_true, sc_and]
  rw [wi_id (m * w / T + 1) (by omega) (by omega)]
  rcases h with h | ⟨h1, h2⟩
  · rw [h]; simp
  · rw [h1, decide_eq_true h2]
    have : (m * w / T + 1 == m * w / T) = false := by simp; omega
    rw [this]; simp

theorem splits_loop_is (p a : List Int) (hp : p.length ≤ 16) (hf : Fit p) (ha : a.length = p.length) (hb : ∀ i, 0 ≤ a.getD i 0 ∧ a.getD i 0 ≤ p.getD i 0) (m : Int) (hm : 0 ≤ m) (hmT : m ≤ isum p) (hnear : 0 < isum p → ∀ i, i < p.length → nearP (a.getD i 0) (p.getD i 0) m (isum p)) (sm : Option Bool) :
    ∀ (k i : Nat), p.length < i + k → i ≤ p.length → splits_loop10 right_ total take near sm k p true a (ds p a) (isum p) m (i : Int) = some (.inl (p, true, a, ds p a, isum p, m)) := by
  intro k
  induction k with
  | zero => intro i h hi; omega
  | succ k ih =>
    intro i h hi0
    unfold splits_loop10 splits_loop10_step
    rw [Int.toNat_natCast]
    by_cases hi : i < p.length
    · have hi' : (i : Int) < (p.length : Int) := by omega
      have h1 := hb i
      have h2 := Fit_getD hf i
      have hd := ds_getD p a i hi
      have nx := ih (i + 1) (by omega) (by omega)
      rw [inb i p.length hi, inb i a.length (by omega), inb i (ds p a).length (by rw [ds_length]; exact hi), hd]
      have hw : wi ((i : Int) + 1) = ((i + 1 : Nat) : Int) := wi_id _ (by omega) (by omega)
      have c1 : decide (a.getD i 0 < 0) = false := decide_eq_false (by omega)
      have c2 : decide (p.getD i 0 - a.getD i 0 < 0) = false := decide_eq_false (by omega)
      have c3 : (wi (a.getD i 0 + (p.getD i 0 - a.getD i 0)) != p.getD i 0) = false := by
        rw [wi_id _ (by omega) (by omega), show a.getD i 0 + (p.getD i 0 - a.getD i 0) = p.getD i 0 by omega, bne_self_eq_false]
      have hlt : decide ((i : Int) < (p.length : Int)) = true := decide_eq_true hi'
      rw [c1, c2, c3, hlt]
      rcases Int.lt_or_le 0 (isum p) with hT | hT
      · have c4 : decide (isum p > 0) = true := decide_eq_true hT
        rw [c4, near_true hm hmT hT hf.2 h2.1 h2.2 (hnear hT i hi)]
        simp only [cond_true, cond_false, Option.bind_some, Bool.not_true]
        rw [hw]
        exact nx
      · have c4 : decide (isum p > 0) = false := decide_eq_false (by omega)
        rw [c4]
        simp only [cond_true, cond_false, Option.bind_some]
        rw [hw]
        exact nx
    · have hi' : ¬ (i : Int) < (p.length : Int) := by omega
      simp only [hi', decide_false, cond_false]

theorem splits_true (p : List Int) (n : Int) (hr : ∀ x, x ∈ p → InR x) (hl : p.length ≤ 9223372036854775807) : splits p n = some true := by
  unfold splits splits_body
  rw [small_true]
  simp only [Option.bind_some]
  rw [right__eq p _ hr hl]
  by_cases hc : (0 : Int) ≤ (p.length : Int) ∧ (p.length : Int) ≤ 16 ∧ (p.length : Int) = (p.length : Int) ∧ Fit p
  · rw [decide_eq_true hc]
    obtain ⟨_, h16, _, hf⟩ := hc
    simp only [Option.bind_some, Bool.not_true, cond_false, sc_or, Bool.false_or]
    by_cases hn : n < 0 ∨ n > 1125899906842624
    · have : (decide (n < 0) || decide (n > 1125899906842624)) = true := by simpa using hn
      rw [this]; rfl
    · have : (decide (n < 0) || decide (n > 1125899906842624)) = false := by simp; omega
      rw [this, cond_false]
      obtain ⟨a, g1, g2, g3, g4, g5⟩ := take_is p n (by omega) hf (by omega)
      have hT0 := isum_nonneg hf.1
      have hT1 := hf.2
      obtain ⟨m, hm⟩ : ∃ m, m = (if isum p < n then isum p else n) := ⟨_, rfl⟩
      rw [← hm] at g4 g5
      have hm0 : 0 ≤ m ∧ m ≤ isum p := by rw [hm]; split <;> omega
      have hfa := sub_Fit hf g2 g3
      have hfb := ds_Fit hf g2 g3
      have hsb := isum_ds g2
      have hda : (ds p a).length = p.length := ds_length _ _
      rw [g1]
      simp only [Option.bind_some, g2, hda, bne_self_eq_false, cond_false, Bool.or_self]
      rw [total_fit (by omega) hf.1 (by omega)]
      simp only [Option.bind_some]
      rw [← hm]
      have gl : splits_loop10 right_ total take near (some true) FUEL p true a (ds p a) (isum p) m 0 = _ := splits_loop_is p a (by omega) hf g2 g3 m hm0.1 hm0.2 g5 (some true) FUEL 0 (fuel_gt _ hl) (by omega)
      rw [gl]
      simp only [Option.bind_some, Sum.elim]
      rw [total_fit (by omega) hfa.1 (by have := hfa.2; omega), total_fit (by omega) hfb.1 (by have := hfb.2; omega), right__fit (by omega) hfa _ (by omega), right__fit (by omega) hfb _ (by omega), hsb, g4, wi_id _ (by omega) (by omega)]
      simp
  · rw [decide_eq_false hc]
    rfl

theorem merges_loop_is (p q s : List Int) (hp : p.length ≤ 16) (hq : q.length = p.length) (hs : s.length = p.length) (hpf : Fit p) (hqf : Fit q) (h : ∀ i, s.getD i 0 = p.getD i 0 + q.getD i 0) (sm : Option Bool) :
    ∀ (k i : Nat), p.length < i + k → i ≤ p.length → merges_loop9 same right_ total padd take sm k p q true s (i : Int) = some (.inl (true, s)) := by
  intro k
  induction k with
  | zero => intro i h hi; omega
  | succ k ih =>
    intro i h' hi0
    unfold merges_loop9 merges_loop9_step
    rw [Int.toNat_natCast]
    by_cases hi : i < p.length
    · have hi' : (i : Int) < (p.length : Int) := by omega
      have h1 := Fit_getD hpf i
      have h2 := Fit_getD hqf i
      rw [inb i p.length hi, inb i s.length (by omega), inb i q.length (by omega), h i, wi_id (p.getD i 0 + q.getD i 0) (by omega) (by omega), bne_self_eq_false]
      simp only [hi', decide_true, cond_true, cond_false]
      rw [wi_id ((i : Int) + 1) (by omega) (by omega)]
      exact ih (i + 1) (by omega) (by omega)
    · have hi' : ¬ (i : Int) < (p.length : Int) := by omega
      simp only [hi', decide_false, cond_false]

theorem all_taken {s a : List Int} (h : a.length = s.length) (hb : ∀ i, 0 ≤ a.getD i 0 ∧ a.getD i 0 ≤ s.getD i 0) (hs : isum a = isum s) : a = s := by
  have h1 := isum_ds h
  have hz : isum (ds s a) = 0 := by omega
  have hnn : ∀ x, x ∈ ds s a → 0 ≤ x := fun x hx => by
    simp only [ds, List.mem_map] at hx
    obtain ⟨i, _, rfl⟩ := hx
    have := hb i; omega
  refine ext_getD h fun i hi => ?_
  have hm := getD_mem (ds s a) i 0 (by rw [ds_length]; omega)
  rw [ds_getD s a i (by omega)] at hm
  have h2 := hb i
  obtain ⟨x, y, e⟩ := List.append_of_mem hm
  rw [e, isum_append] at hz
  have hx := isum_nonneg (l := x) (fun z hz' => hnn z (by rw [e]; simp [hz']))
  have hy := isum_nonneg (l := y) (fun z hz' => hnn z (by rw [e]; simp [hz']))
  simp only [isum] at hz
  omega

theorem merges_true (p q : List Int) (hr : ∀ x, x ∈ p → InR x) (hl : p.length ≤ 9223372036854775807) (hr2 : ∀ x, x ∈ q → InR x) (hl2 : q.length ≤ 9223372036854775807) : merges p q = some true := by
  unfold merges merges_body
  rw [small_true]
  simp only [Option.bind_some]
  rw [right__eq p _ hr hl]
  by_cases hc : (0 : Int) ≤ (p.length : Int) ∧ (p.length : Int) ≤ 16 ∧ (p.length : Int) = (p.length : Int) ∧ Fit p
  · rw [decide_eq_true hc]
    obtain ⟨_, h16, _, hf⟩ := hc
    simp only [Option.bind_some, Bool.not_true, cond_false]
    rw [right__eq q _ hr2 hl2]
    by_cases hc2 : (0 : Int) ≤ (p.length : Int) ∧ (p.length : Int) ≤ 16 ∧ (q.length : Int) = (p.length : Int) ∧ Fit q
    · rw [decide_eq_true hc2]
      obtain ⟨_, _, hql, hqf⟩ := hc2
      have hql' : q.length = p.length := by omega
      simp only [Option.bind_some, Bool.not_true, cond_false]
      rw [padd_eq p q hr hr2 (by omega) (by omega), padd_eq q p hr2 hr (by omega) (by omega)]
      obtain ⟨z1, z2, z3, z4⟩ := zs_Fit hql'.symm hf hqf
      have hcomm : zs q p = zs p q := ext_getD (by rw [zs_len, zs_len, hql']) fun i _ => by rw [zs_getD, zs_getD, Int.add_comm]
      rw [hcomm]
      have hsl : (zs p q).length = p.length := by omega
      have hT0 := isum_nonneg z2
      have h1 := hf.2; have h2 := hqf.2
      have h3 := isum_nonneg hf.1; have h4 := isum_nonneg hqf.1
      generalize hS : zs p q = s at *
      simp only [Option.bind_some, hsl, bne_self_eq_false, cond_false, same_refl s (by omega), Bool.not_true]
      rw [total_fit (by omega) z2 (by omega), total_fit (by omega) hf.1 (by omega), total_fit (by omega) hqf.1 (by omega)]
      simp only [Option.bind_some]
      rw [wi_id (isum p + isum q) (by omega) (by omega), z1, bne_self_eq_false, cond_false]
      have gl : merges_loop9 same right_ total padd take (some true) FUEL p q true s 0 = _ := merges_loop_is p q s (by omega) hql' hsl hf hqf z4 (some true) FUEL 0 (fuel_gt _ hl) (by omega)
      rw [gl]
      simp only [Option.bind_some, Sum.elim]
      rw [total_fit (by omega) z2 (by omega)]
      simp only [Option.bind_some]
      have hsin : ∀ x, x ∈ s → InR x := by rw [← hS]; exact zs_in p q
      by_cases hbig : isum s > 1125899906842624
      · rw [decide_eq_true hbig, cond_true, cond_true, right__eq s _ hsin (by omega), decide_eq_false (fun hh => by have := hh.2.2.2.2; omega)]
        rfl
      · rw [decide_eq_false hbig, cond_false]
        have hsf : Fit s := ⟨z2, by omega⟩
        obtain ⟨a, g1, g2, g3, g4, _⟩ := take_is s (isum s) (by omega) hsf hT0
        rw [if_neg (by omega)] at g4
        have ea := all_taken g2 g3 g4
        subst ea
        have hdz : isum (ds a a) = 0 := by rw [isum_ds rfl]; omega
        have hfd : Fit (ds a a) := ds_Fit hsf rfl g3
        have hdl : (ds a a).length = a.length := ds_length _ _
        rw [g1]
        simp only [Option.bind_some, cond_true, same_refl a (by omega)]
        rw [total_fit (by omega) hfd.1 (by omega), right__fit (by omega) hfd _ (by omega), hdz]
        rfl
    · rw [decide_eq_false hc2]
      rfl
  · rw [decide_eq_false hc]
    rfl
end Go.Lift.S17
