import Derived.Test.YtbdbjamebjbhnaaPL
set_option linter.all false
/- Dividing in the order of the rights: the plain law of seat 38, without the program. -/
set_option linter.unusedSimpArgs false
set_option linter.unusedVariables false
namespace Go.Lift.Gr

/-- The least of n and what is left at the places l. -/
def leastS (L : Int → Int) : Int → List Int → Int
  | n, [] => n
  | n, q :: l => leastS L (if L q < n then L q else n) l

theorem leastS_le (L : Int → Int) : ∀ (l : List Int) (n : Int), leastS L n l ≤ n ∧ ∀ q, q ∈ l → leastS L n l ≤ L q
  | [], n => ⟨Int.le_refl _, fun q h => by cases h⟩
  | p :: l, n => by
    obtain ⟨h1, h2⟩ := leastS_le L l (if L p < n then L p else n)
    have h3 : (if L p < n then L p else n) ≤ n ∧ (if L p < n then L p else n) ≤ L p := by split <;> omega
    simp only [leastS]
    refine ⟨by omega, fun q hq => ?_⟩
    rcases List.mem_cons.1 hq with rfl | hq
    · omega
    · exact h2 q hq

theorem leastS_is (L : Int → Int) : ∀ (l : List Int) (n : Int), leastS L n l = n ∨ ∃ q, q ∈ l ∧ leastS L n l = L q
  | [], n => .inl rfl
  | p :: l, n => by
    simp only [leastS]
    rcases leastS_is L l (if L p < n then L p else n) with h | ⟨q, h1, h2⟩
    · split at h
      · rw [if_pos (by assumption)]; exact .inr ⟨p, by simp, h⟩
      · rw [if_neg (by assumption)]; exact .inl h
    · exact .inr ⟨q, by simp [h1], h2⟩

/-- What is left at q after the first i rights took what got says. -/
def fl (R : Nat → List Int) (L0 : Int → Int) (got : Nat → Int) : Nat → Int → Int
  | 0, q => L0 q
  | i + 1, q => fl R L0 got i q - if q ∈ R i then got i else 0

theorem fl_congr {R : Nat → List Int} {L0 : Int → Int} {g h : Nat → Int} : ∀ {m : Nat} {q : Int}, (∀ i, i < m → g i = h i) → fl R L0 g m q = fl R L0 h m q
  | 0, _, _ => rfl
  | m + 1, q, e => by simp only [fl]; rw [fl_congr (fun i hi => e i (by omega)), e m (by omega)]

theorem fl_le {R : Nat → List Int} {L0 : Int → Int} {g : Nat → Int} {i : Nat} {q : Int} : ∀ {m : Nat}, i ≤ m → (∀ j, i ≤ j → j < m → 0 ≤ g j) → fl R L0 g m q ≤ fl R L0 g i q
  | 0, h, _ => by have : i = 0 := by omega
                  subst this; exact Int.le_refl _
  | m + 1, h, e => by
    by_cases hi : i = m + 1
    · subst hi; exact Int.le_refl _
    · have h1 := fl_le (m := m) (by omega) (fun j a b => e j a (by omega)) (q := q) (L0 := L0) (R := R)
      have h2 := e m (by omega) (by omega)
      simp only [fl]
      split <;> omega

/-- Nobody takes anything at q from i on. -/
theorem fl_eq {R : Nat → List Int} {L0 : Int → Int} {g : Nat → Int} {i : Nat} {q : Int} : ∀ {m : Nat}, i ≤ m → (∀ j, i ≤ j → j < m → q ∈ R j → g j = 0) → fl R L0 g m q = fl R L0 g i q
  | 0, h, _ => by have : i = 0 := by omega
                  subst this; rfl
  | m + 1, h, e => by
    by_cases hi : i = m + 1
    · subst hi; rfl
    · have h1 := fl_eq (m := m) (by omega) (fun j a b => e j a (by omega)) (q := q) (L0 := L0) (R := R)
      simp only [fl]
      split
      · have := e m (by omega) (by omega) (by assumption); omega
      · omega

/-- The day's grants. -/
structure Day (R : Nat → List Int) (rate : Nat → Int) (L0 : Int → Int) (g : Nat → Int) (m : Nat) : Prop where
  none : ∀ i, i < m → R i = [] → g i = 0
  some : ∀ i, i < m → R i ≠ [] → g i = if leastS (fl R L0 g i) (rate i) (R i) > 0 then leastS (fl R L0 g i) (rate i) (R i) else 0

variable {R : Nat → List Int} {rate : Nat → Int} {L0 : Int → Int} {g : Nat → Int} {m : Nat}

theorem Day.nonneg (h : Day R rate L0 g m) {i : Nat} (hi : i < m) : 0 ≤ g i := by
  by_cases hR : R i = []
  · rw [h.none i hi hR]; exact Int.le_refl _
  · rw [h.some i hi hR]; split <;> omega

theorem Day.left (h : Day R rate L0 g m) (h0 : ∀ i, i < m → ∀ q, q ∈ R i → 0 ≤ L0 q) : ∀ (k : Nat), k ≤ m → ∀ q, 0 ≤ L0 q → 0 ≤ fl R L0 g k q
  | 0, _, q, hq => hq
  | k + 1, hk, q, hq => by
    have ih := Day.left h h0 k (by omega)
    simp only [fl]
    by_cases hm : q ∈ R k
    · rw [if_pos hm]
      have hR : R k ≠ [] := fun e => by rw [e] at hm; cases hm
      have h1 := h.some k (by omega) hR
      have h2 := (leastS_le (fl R L0 g k) (R k) (rate k)).2 q hm
      have h3 := ih q hq
      rw [h1]
      split <;> omega
    · rw [if_neg hm]
      have := ih q hq
      omega

/-- A right that is short has a place where nothing is left, from then on. -/
theorem Day.stop (h : Day R rate L0 g m) (h0 : ∀ i, i < m → ∀ q, q ∈ R i → 0 ≤ L0 q) {i : Nat} (hi : i < m) (hR : R i ≠ []) (hs : g i < rate i) :
    ∃ q, q ∈ R i ∧ fl R L0 g m q = 0 ∧ ∀ j, i < j → j < m → 0 < g j → q ∉ R j := by
  have hg := h.some i hi hR
  have hn := h.nonneg hi
  have hle := leastS_le (fl R L0 g i) (R i) (rate i)
  have key : ∃ q, q ∈ R i ∧ fl R L0 g (i + 1) q = 0 := by
    rcases leastS_is (fl R L0 g i) (R i) (rate i) with e | ⟨q, hq, e⟩
    · rw [e] at hg
      split at hg <;> omega
    · have hl := Day.left h h0 i (by omega) q (h0 i hi q hq)
      refine ⟨q, hq, ?_⟩
      simp only [fl]
      rw [if_pos hq, hg, e]
      split <;> omega
  obtain ⟨q, hq, e⟩ := key
  have hz : ∀ j, i < j → j ≤ m → fl R L0 g j q = 0 := fun j h1 h2 => by
    have a := fl_le (R := R) (L0 := L0) (g := g) (q := q) (i := i + 1) (m := j) (by omega) (fun k a b => h.nonneg (by omega))
    have b := Day.left h h0 j h2 q (h0 i hi q hq)
    omega
  refine ⟨q, hq, hz m hi (Nat.le_refl _), fun j h1 h2 h3 hqj => ?_⟩
  have hRj : R j ≠ [] := fun e => by rw [e] at hqj; cases hqj
  have h4 := h.some j h2 hRj
  have h5 := (leastS_le (fl R L0 g j) (R j) (rate j)).2 q hqj
  rw [hz j h1 (by omega)] at h5
  split at h4 <;> omega

/-- What is accepted. -/
structure Acc (R : Nat → List Int) (rate : Nat → Int) (L0 : Int → Int) (got : Nat → Int) (m : Nat) : Prop where
  nonneg : ∀ i, i < m → 0 ≤ got i
  most : ∀ i, i < m → got i ≤ rate i ∨ got i = 0
  none : ∀ i, i < m → R i = [] → got i = 0
  left : ∀ i, i < m → ∀ q, q ∈ R i → 0 ≤ fl R L0 got m q
  stop : ∀ i, i < m → R i ≠ [] → got i < rate i → ∃ q, q ∈ R i ∧ fl R L0 got m q ≤ 0 ∧ ∀ j, i < j → j < m → 0 < got j → q ∉ R j

/-- Only the day's grants are accepted. -/
theorem Acc.only {got : Nat → Int} (h : Day R rate L0 g m) (h0 : ∀ i, i < m → ∀ q, q ∈ R i → 0 ≤ L0 q) (a : Acc R rate L0 got m) : ∀ (i : Nat), i < m → got i = g i := by
  intro i
  induction i using Nat.strongRecOn with
  | ind i ih =>
    intro hi
    have e : ∀ q, fl R L0 got i q = fl R L0 g i q := fun q => fl_congr fun j hj => ih j hj (by omega)
    by_cases hR : R i = []
    · rw [h.none i hi hR, a.none i hi hR]
    · have hg := h.some i hi hR
      have hn := h.nonneg hi
      have hle := leastS_le (fl R L0 g i) (R i) (rate i)
      have hb : ∀ q, q ∈ R i → got i ≤ fl R L0 g i q := fun q hq => by
        have h1 := a.left i hi q hq
        have h2 := fl_le (R := R) (L0 := L0) (g := got) (q := q) (i := i + 1) (m := m) (by omega) (fun k _ b => a.nonneg k b)
        simp only [fl] at h2
        rw [if_pos hq, e] at h2
        omega
      have hmost := a.most i hi
      have hnn := a.nonneg i hi
      have hup : got i ≤ g i := by
        rcases leastS_is (fl R L0 g i) (R i) (rate i) with e1 | ⟨q, hq, e1⟩
        · rw [e1] at hg
          split at hg <;> omega
        · have := hb q hq
          rw [e1] at hg
          split at hg <;> omega
      rcases Int.lt_or_le (got i) (g i) with hlt | hge
      · exfalso
        have hr : got i < rate i := by
          have : g i ≤ rate i := by split at hg <;> omega
          omega
        obtain ⟨q, hq, h1, h2⟩ := a.stop i hi hR hr
        have h3 := fl_eq (R := R) (L0 := L0) (g := got) (q := q) (i := i + 1) (m := m) (by omega) (fun j ha hb hqj => by
          have := a.nonneg j hb
          rcases Int.lt_or_le 0 (got j) with h | h
          · exact absurd hqj (h2 j (by omega) hb h)
          · omega)
        rw [h3] at h1
        simp only [fl] at h1
        rw [if_pos hq, e] at h1
        have h4 := hle.2 q hq
        split at hg <;> omega
      · omega

/-- The day's grants are accepted. -/
theorem Day.acc (h : Day R rate L0 g m) (h0 : ∀ i, i < m → ∀ q, q ∈ R i → 0 ≤ L0 q) : Acc R rate L0 g m := by
  refine ⟨fun i hi => h.nonneg hi, fun i hi => ?_, h.none, fun i hi q hq => Day.left h h0 m (Nat.le_refl _) q (h0 i hi q hq), fun i hi hR hs => ?_⟩
  · by_cases hR : R i = []
    · exact .inr (h.none i hi hR)
    · have := h.some i hi hR
      have := (leastS_le (fl R L0 g i) (R i) (rate i)).1
      split at * <;> omega
  · obtain ⟨q, h1, h2, h3⟩ := Day.stop h h0 hi hR hs
    exact ⟨q, h1, by omega, h3⟩

/-! ### the day's grants, one after the other -/

def gOf (R : Nat → List Int) (rate : Nat → Int) (L : Int → Int) (i : Nat) : Int :=
  if R i = [] then 0 else if leastS L (rate i) (R i) > 0 then leastS L (rate i) (R i) else 0
def lvS (R : Nat → List Int) (rate : Nat → Int) (L0 : Int → Int) : Nat → Int → Int
  | 0, q => L0 q
  | i + 1, q => lvS R rate L0 i q - if q ∈ R i then gOf R rate (lvS R rate L0 i) i else 0
def gS (R : Nat → List Int) (rate : Nat → Int) (L0 : Int → Int) (i : Nat) : Int := gOf R rate (lvS R rate L0 i) i
theorem lvS_fl (R : Nat → List Int) (rate : Nat → Int) (L0 : Int → Int) : ∀ (i : Nat), lvS R rate L0 i = fl R L0 (gS R rate L0) i
  | 0 => rfl
  | i + 1 => by
    funext q
    have h := lvS_fl R rate L0 i
    show lvS R rate L0 i q - (if q ∈ R i then gS R rate L0 i else 0) = fl R L0 (gS R rate L0) i q - (if q ∈ R i then gS R rate L0 i else 0)
    rw [h]
theorem day_gS (R : Nat → List Int) (rate : Nat → Int) (L0 : Int → Int) (m : Nat) : Day R rate L0 (gS R rate L0) m := by
  refine ⟨fun i _ h => ?_, fun i _ h => ?_⟩
  · unfold gS gOf; rw [if_pos h]
  · show gOf R rate (lvS R rate L0 i) i = _
    unfold gOf
    rw [if_neg h, lvS_fl]
theorem leastS_congr {L L' : Int → Int} : ∀ {l : List Int} {n : Int}, (∀ q, q ∈ l → L q = L' q) → leastS L n l = leastS L' n l
  | [], _, _ => rfl
  | p :: l, n, h => by
    simp only [leastS]
    rw [h p (by simp), leastS_congr fun q hq => h q (by simp [hq])]

/-! ### lists of places -/

/-- At the places l. -/
def upd (f : Int → Int) : List Int → List Int → List Int
  | d, [] => d
  | d, q :: l => upd f (d.set q.toNat (f (d.getD q.toNat 0))) l

theorem upd_length (f : Int → Int) : ∀ (l d : List Int), (upd f d l).length = d.length
  | [], _ => rfl
  | q :: l, d => by simp only [upd]; rw [upd_length f l]; simp

theorem upd_getD (f : Int → Int) : ∀ (l d : List Int), l.Nodup → (∀ x, x ∈ l → 0 ≤ x ∧ x < (d.length : Int)) → ∀ (q : Nat), (upd f d l).getD q 0 = if (q : Int) ∈ l then f (d.getD q 0) else d.getD q 0
  | [], d, _, _, q => by simp [upd]
  | x :: l, d, hn, h, q => by
    have hx := h x (by simp)
    have hn' := List.nodup_cons.1 hn
    simp only [upd]
    rw [upd_getD f l _ hn'.2 (fun y hy => by rw [List.length_set]; exact h y (by simp [hy])) q]
    have e : ∀ j : Nat, (d.set x.toNat (f (d.getD x.toNat 0))).getD j 0 = if (j : Int) = x then f (d.getD j 0) else d.getD j 0 := fun j => by
      rw [Ar.getD_set]
      by_cases hj : (j : Int) = x
      · rw [if_pos hj, if_pos ⟨by omega, by omega⟩]
        congr 2; omega
      · rw [if_neg hj, if_neg (fun hh => hj (by omega))]
    rw [e]
    by_cases hqx : (q : Int) = x
    · rw [if_neg (show ¬ (q : Int) ∈ l by rw [hqx]; exact hn'.1), if_pos hqx, if_pos (by simp [hqx])]
    · rw [if_neg hqx]
      by_cases hq : (q : Int) ∈ l
      · rw [if_pos hq, if_pos (by simp [hq])]
      · rw [if_neg hq, if_neg (by simp [hq, hqx])]
end Go.Lift.Gr
