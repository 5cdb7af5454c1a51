import Derived.Test.YtnbknlaejebjbaaPL17s
set_option linter.all false
/- Merging two sorted blocks. -/
set_option linter.unusedSimpArgs false
set_option linter.unusedVariables false
namespace Go.Lift.S17
open Go Go.Lift Go.Lift.Ar

theorem bif_bind {α β : Type} (c : Bool) (X Y : Option α) (F : α → Option β) : (bif c then Option.bind X F else Option.bind Y F) = Option.bind (bif c then X else Y) F := by cases c <;> rfl

/-- What a merge does. -/
def Merged (R d d' : List Int) (a b : Nat) : Prop :=
  d'.length = d.length ∧ d'.Perm d ∧ Sor R d' a b ∧ (∀ p, p < a ∨ b ≤ p → d'.getD p 0 = d.getD p 0) ∧ ∀ p, a ≤ p → p < b → ∃ q, a ≤ q ∧ q < b ∧ d'.getD p 0 = d.getD q 0

theorem Sor.shift {R d d1 : List Int} {x y u v : Nat} (h : Sor R d u v) (hl : y - x ≤ v - u) (e : ∀ p, x ≤ p → p < y → d1.getD p 0 = d.getD (p - x + u) 0) (hxy : x ≤ y) (huv : u ≤ v) : Sor R d1 x y := fun p q h1 h2 h3 => by
  rw [e p h1 (by omega), e q (by omega) h3]
  exact h _ _ (by omega) (by omega) (by omega)

theorem merged_left {R d d' : List Int} {a m b r N : Nat} (ham : a < m) (c1 : m - a = 1) (l2 : m ≤ r) (l3 : r ≤ b) (hd : d.length = N) (hS2 : Sor R d m b) (l4 : ∀ q : Nat, m ≤ q → q < r → bef R (d.getD q 0) (d.getD a 0)) (l5 : ∀ q : Nat, r ≤ q → q < b → bef R (d.getD a 0) (d.getD q 0))
    (g2 : d'.length = N) (g3 : d'.Perm d) (g4 : ∀ p, a ≤ p → p + 1 < r → d'.getD p 0 = d.getD (p + 1) 0) (g5 : d'.getD (r - 1) 0 = d.getD a 0) (g6 : ∀ p, p < a ∨ r ≤ p → d'.getD p 0 = d.getD p 0) : Merged R d d' a b := by
  refine ⟨by omega, g3, fun p q h1 h2 h3 => ?_, fun p h1 => ?_, fun p h1 h2 => ?_⟩
  · by_cases hq : q < r - 1
    · rw [g4 p h1 (by omega), g4 q (by omega) (by omega)]
      exact hS2 _ _ (by omega) (by omega) (by omega)
    · by_cases hq2 : q = r - 1
      · rw [g4 p h1 (by omega), hq2, g5]
        exact l4 _ (by omega) (by omega)
      · rw [g6 q (by omega)]
        by_cases hp : p < r - 1
        · rw [g4 p h1 (by omega)]; exact hS2 _ _ (by omega) (by omega) h3
        · by_cases hp2 : p = r - 1
          · rw [hp2, g5]; exact l5 q (by omega) h3
          · rw [g6 p (by omega)]; exact hS2 _ _ (by omega) h2 h3
  · exact g6 p (by omega)
  · by_cases hp : p < r - 1
    · exact ⟨p + 1, by omega, by omega, g4 p h1 (by omega)⟩
    · by_cases hp2 : p = r - 1
      · exact ⟨a, by omega, by omega, by rw [hp2, g5]⟩
      · exact ⟨p, h1, h2, g6 p (by omega)⟩

theorem merged_right {R d d' : List Int} {a m b r N : Nat} (hmb : m < b) (c2 : b - m = 1) (l2 : a ≤ r) (l3 : r ≤ m) (hd : d.length = N) (hS1 : Sor R d a m) (l4 : ∀ q : Nat, a ≤ q → q < r → bef R (d.getD q 0) (d.getD m 0)) (l5 : ∀ q : Nat, r ≤ q → q < m → bef R (d.getD m 0) (d.getD q 0))
    (g2 : d'.length = N) (g3 : d'.Perm d) (g4 : ∀ p, r < p → p ≤ m → d'.getD p 0 = d.getD (p - 1) 0) (g5 : d'.getD r 0 = d.getD m 0) (g6 : ∀ p, p < r ∨ m < p → d'.getD p 0 = d.getD p 0) : Merged R d d' a b := by
  refine ⟨by omega, g3, fun p q h1 h2 h3 => ?_, fun p h1 => ?_, fun p h1 h2 => ?_⟩
  · by_cases hp : p < r
    · rw [g6 p (.inl hp)]
      by_cases hq : q < r
      · rw [g6 q (.inl hq)]; exact hS1 _ _ h1 h2 (by omega)
      · by_cases hq2 : q = r
        · rw [hq2, g5]; exact l4 p h1 hp
        · rw [g4 q (by omega) (by omega)]; exact hS1 _ _ h1 (by omega) (by omega)
    · by_cases hp2 : p = r
      · rw [hp2, g5, g4 q (by omega) (by omega)]
        exact l5 _ (by omega) (by omega)
      · rw [g4 p (by omega) (by omega), g4 q (by omega) (by omega)]
        exact hS1 _ _ (by omega) (by omega) (by omega)
  · exact g6 p (by omega)
  · by_cases hp : p < r
    · exact ⟨p, h1, h2, g6 p (.inl hp)⟩
    · by_cases hp2 : p = r
      · exact ⟨m, by omega, by omega, by rw [hp2, g5]⟩
      · exact ⟨p - 1, by omega, by omega, g4 p (by omega) (by omega)⟩

theorem symMerge_is (R : List Int) (N : Nat) (hN : N ≤ 2305843009213693952) : ∀ (k : Nat) (a m b : Nat) (d : List Int), b - a < k → a < m → m < b → b ≤ N → d.length = N → InB R d → Sor R d a m → Sor R d m b → Crs d a m b →
    ∃ d', symMerge_f k (a : Int) (m : Int) (b : Int) (R, ()) d = some d' ∧ Merged R d d' a b := by
  intro k
  induction k with
  | zero => intro a m b d h; omega
  | succ k ih =>
    intro a m b d hk ham hmb hbN hd hin hS1 hS2 hC
    have hF : FUEL = 18446744073709551616 := rfl
    unfold symMerge_f symMerge_body
    have e1 : wi ((m : Int) - (a : Int)) = ((m - a : Nat) : Int) := by rw [wi_id _ (by omega) (by omega)]; omega
    have e2 : wi ((b : Int) - (m : Int)) = ((b - m : Nat) : Int) := by rw [wi_id _ (by omega) (by omega)]; omega
    rw [e1, e2]
    by_cases c1 : m - a = 1
    · have : (((m - a : Nat) : Int) == 1) = true := by rw [c1]; rfl
      rw [this, cond_true]
      obtain ⟨r, l1, l2, l3, l4, l5⟩ := loop3_is rotate (symMerge_f k) R d a m b ham (by omega) (by omega) hin hS2 hC (by omega) FUEL m b (by omega) (Nat.le_refl _) (by omega) (Nat.le_refl _) (fun q h1 h2 => by omega) (fun q h1 h2 => by omega)
      rw [l1]
      simp only [Option.bind_some]
      obtain ⟨d', g1, g2, g3, g4, g5, g6⟩ := loop9_is rotate (symMerge_f k) N r (by omega) hN FUEL a d (by omega) (by omega) hd
      rw [g1]
      exact ⟨d', rfl, merged_left ham c1 l2 l3 hd hS2 l4 l5 g2 g3 g4 g5 g6⟩
    · have : (((m - a : Nat) : Int) == 1) = false := by simp; omega
      rw [this, cond_false]
      by_cases c2 : b - m = 1
      · have : (((b - m : Nat) : Int) == 1) = true := by rw [c2]; rfl
        rw [this, cond_true]
        have hC' : Crs d a m (m + 1) := fun p q h1 h2 h3 h4 => hC p q h1 h2 h3 (by omega)
        obtain ⟨r, l1, l2, l3, l4, l5⟩ := loop15_is rotate (symMerge_f k) R d a m b ham (by omega) (by omega) hin hS1 hC' FUEL a m (by omega) (Nat.le_refl _) (by omega) (Nat.le_refl _) (fun q h1 h2 => by omega) (fun q h1 h2 => by omega)
        rw [l1]
        simp only [Option.bind_some]
        obtain ⟨d', g1, g2, g3, g4, g5, g6⟩ := loop21_is rotate (symMerge_f k) N r hN FUEL m d (by omega) l3 (by omega) hd
        rw [g1]
        exact ⟨d', rfl, merged_right hmb c2 l2 l3 hd hS1 l4 l5 g2 g3 g4 g5 g6⟩
      · have : (((b - m : Nat) : Int) == 1) = false := by simp; omega
        rw [this, cond_false, half a b (by omega)]
        obtain ⟨mid, hmid⟩ : ∃ mid, mid = (a + b) / 2 := ⟨_, rfl⟩
        rw [← hmid]
        have f1 : wi (((mid : Nat) : Int) + (m : Int)) = ((mid + m : Nat) : Int) := wi_id _ (by omega) (by omega)
        have f3 : wi (((mid + m : Nat) : Int) - 1) = ((mid + m - 1 : Nat) : Int) := by rw [wi_id _ (by omega) (by omega)]; omega
        rw [f1, f3, bif_bind]
        -- the search
        obtain ⟨st, s0, r0, hloop, hs0, ht1, ht2, hr0, hcase, ha1, ha2⟩ : ∃ st s0 r0 : Nat, (bif decide ((m : Int) > (mid : Int)) then
            symMerge_loop33 share2 rotate (symMerge_f k) FUEL (a : Int) (m : Int) (b : Int) (R, ()) (mid : Int) ((mid + m : Nat) : Int) (wi (((mid + m : Nat) : Int) - (b : Int))) (mid : Int) ((mid + m - 1 : Nat) : Int) d
            else symMerge_loop33 share2 rotate (symMerge_f k) FUEL (a : Int) (m : Int) (b : Int) (R, ()) (mid : Int) ((mid + m : Nat) : Int) (a : Int) (m : Int) ((mid + m - 1 : Nat) : Int) d) = some ((a : Int), (m : Int), (b : Int), (R, ()), (mid : Int), ((mid + m : Nat) : Int), (st : Int), d) ∧
            a ≤ s0 ∧ s0 ≤ st ∧ st ≤ r0 ∧ r0 ≤ m ∧ ((mid < m ∧ s0 = mid + m - b ∧ r0 = mid) ∨ (m ≤ mid ∧ s0 = a ∧ r0 = m)) ∧ (∀ c, s0 ≤ c → c < st → bef R (d.getD c 0) (d.getD (mid + m - 1 - c) 0)) ∧ (∀ c, st ≤ c → c < r0 → bef R (d.getD (mid + m - 1 - c) 0) (d.getD c 0)) := by
          by_cases hm : mid < m
          · have f2 : wi (((mid + m : Nat) : Int) - (b : Int)) = ((mid + m - b : Nat) : Int) := by rw [wi_id _ (by omega) (by omega)]; omega
            rw [f2, decide_eq_true (show (m : Int) > (mid : Int) by omega), cond_true]
            obtain ⟨t, t1, t2, t3, t4, t5⟩ := loop33_is rotate (symMerge_f k) R d a m b mid (mid + m) (mid + m - b) mid (mid + m - 1) (by omega) (by omega) hin hS1 hS2 hC (by omega) (by omega) (fun c h1 h2 => by omega) FUEL (mid + m - b) mid (by omega) (Nat.le_refl _) (by omega) (Nat.le_refl _) (fun c h1 h2 => by omega) (fun c h1 h2 => by omega)
            exact ⟨t, _, _, t1, by omega, t2, t3, by omega, .inl ⟨hm, rfl, rfl⟩, t4, t5⟩
          · rw [decide_eq_false (show ¬ (m : Int) > (mid : Int) by omega), cond_false]
            obtain ⟨t, t1, t2, t3, t4, t5⟩ := loop33_is rotate (symMerge_f k) R d a m b mid (mid + m) a m (mid + m - 1) (by omega) (by omega) hin hS1 hS2 hC (Nat.le_refl _) (Nat.le_refl _) (fun c h1 h2 => by omega) FUEL a m (by omega) (Nat.le_refl _) (by omega) (Nat.le_refl _) (fun c h1 h2 => by omega) (fun c h1 h2 => by omega)
            exact ⟨t, _, _, t1, Nat.le_refl _, t2, t3, Nat.le_refl _, .inr ⟨by omega, rfl, rfl⟩, t4, t5⟩
        rw [hloop]
        simp only [Option.bind_some]
        have hstm : st ≤ mid := by rcases hcase with ⟨h1, h2, h3⟩ | ⟨h1, h2, h3⟩ <;> omega
        have hstm2 : st ≤ m := by omega
        have hsta : a ≤ st := by omega
        obtain ⟨en, hen⟩ : ∃ en, en = mid + m - st := ⟨_, rfl⟩
        have f4 : wi (((mid + m : Nat) : Int) - (st : Int)) = (en : Int) := by rw [wi_id _ (by omega) (by omega)]; omega
        rw [f4]
        have henb : en ≤ b := by rcases hcase with ⟨h1, h2, h3⟩ | ⟨h1, h2, h3⟩ <;> omega
        -- the two halves
        have LR : ∀ u v, (a ≤ u ∧ u < st ∨ m ≤ u ∧ u < en) → (st ≤ v ∧ v < m ∨ en ≤ v ∧ v < b) → bef R (d.getD u 0) (d.getD v 0) := by
          intro u v hu hv
          rcases hu with ⟨u1, u2⟩ | ⟨u1, u2⟩ <;> rcases hv with ⟨v1, v2⟩ | ⟨v1, v2⟩
          · exact hS1 u v u1 (by omega) v2
          · -- both runs, below the cut
            have hlt : s0 < st := by rcases hcase with ⟨h1, h2, h3⟩ | ⟨h1, h2, h3⟩ <;> omega
            have h5 := ha1 (st - 1) (by omega) (by omega)
            have h6 : bef R (d.getD u 0) (d.getD (mid + m - 1 - (st - 1)) 0) := (hS1.le u1 (show u ≤ st - 1 by omega) (by omega)).1 h5
            exact (hS2.le (show m ≤ mid + m - 1 - (st - 1) by omega) (show mid + m - 1 - (st - 1) ≤ v by omega) v2).2 h6
          · have hlt : st < r0 := by rcases hcase with ⟨h1, h2, h3⟩ | ⟨h1, h2, h3⟩ <;> omega
            have h5 := ha2 st (Nat.le_refl _) hlt
            have h6 : bef R (d.getD u 0) (d.getD st 0) := (hS2.le u1 (show u ≤ mid + m - 1 - st by omega) (by omega)).1 h5
            exact (hS1.le hsta v1 v2).2 h6
          · exact hS2 u v u1 (by omega) v2
        -- the exchange
        have exch : ∃ d1, d1.length = N ∧ d1.Perm d ∧ (∀ p, p < st → d1.getD p 0 = d.getD p 0) ∧ (∀ p, st ≤ p → p < mid → d1.getD p 0 = d.getD (p - st + m) 0) ∧ (∀ p, mid ≤ p → p < en → d1.getD p 0 = d.getD (p - mid + st) 0) ∧ (∀ p, en ≤ p → d1.getD p 0 = d.getD p 0) ∧
            ((st < m ∧ m < en) → rotate (st : Int) (m : Int) (en : Int) (R, ()) d = some d1) ∧ (¬ (st < m ∧ m < en) → d1 = d) := by
          by_cases hx : st < m ∧ m < en
          · obtain ⟨d1, g1, g2, g3, g4, g5, g6⟩ := rotate_is st m en N (R, ()) hx.1 hx.2 (by omega) (by omega) d hd
            refine ⟨d1, g2, g3, fun p h => g6 p (.inl h), fun p h1 h2 => ?_, fun p h1 h2 => ?_, fun p h => g6 p (.inr h), fun _ => g1, fun h => absurd hx h⟩
            · rw [g4 p h1 (by omega)]; exact getD_ix (by omega)
            · rw [g5 p (by omega) h2]; exact getD_ix (by omega)
          · refine ⟨d, hd, List.Perm.refl _, fun p _ => rfl, fun p h1 h2 => getD_ix (by omega), fun p h1 h2 => getD_ix (by omega), fun p _ => rfl, fun h => absurd h hx, fun _ => rfl⟩
        obtain ⟨d1, x1, x2, x3, x4, x5, x6, x7, x8⟩ := exch
        have hin1 : InB R d1 := fun x hx => hin x (x2.mem_iff.1 hx)
        -- the right half
        have right : ∀ d2 : List Int, d2.length = N → d2.Perm d1 → (∀ p, mid ≤ p → d2.getD p 0 = d1.getD p 0) →
            ∃ d3, (Option.bind (bif decide ((mid : Int) < (en : Int)) then some (decide ((en : Int) < (b : Int))) else some false) fun r => bif r then Option.bind (symMerge_f k (mid : Int) (en : Int) (b : Int) (R, ()) d2) fun r => some r else some d2) = some d3 ∧ d3.length = N ∧ d3.Perm d2 ∧ Sor R d3 mid b ∧ (∀ p, p < mid ∨ b ≤ p → d3.getD p 0 = d2.getD p 0) ∧ ∀ p, mid ≤ p → p < b → ∃ q, mid ≤ q ∧ q < b ∧ d3.getD p 0 = d1.getD q 0 := by
          intro d2 h1 h2 h3
          have so1 : Sor R d2 mid en := Sor.shift (u := st) (v := m) (fun p q a1 a2 a3 => hS1 p q (by omega) a2 a3) (by omega) (fun p a1 a2 => by rw [h3 p a1, x5 p a1 a2]) (by omega) hstm2
          have so2 : Sor R d2 en b := Sor.shift (u := en) (v := b) (fun p q a1 a2 a3 => hS2 p q (by omega) a2 a3) (by omega) (fun p a1 a2 => by rw [h3 p (by omega), x6 p a1]; exact getD_ix (by omega)) henb henb
          by_cases hx : mid < en ∧ en < b
          · rw [decide_eq_true (show (mid : Int) < (en : Int) by omega), decide_eq_true (show (en : Int) < (b : Int) by omega)]
            obtain ⟨d3, y1, y2, y3, y4, y5, y6⟩ := ih mid en b d2 (by omega) hx.1 hx.2 hbN h1 (fun x hx => hin1 x (h2.mem_iff.1 hx)) so1 so2 (fun p q a1 a2 a3 a4 => by
              rw [h3 p a1, h3 q (by omega), x5 p a1 a2, x6 q a3]; exact hC _ _ (by omega) (by omega) (by omega) a4)
            refine ⟨d3, by simp only [cond_true, Option.bind_some, y1], by omega, y3, y4, y5, fun p a1 a2 => ?_⟩
            obtain ⟨q, b1, b2, b3⟩ := y6 p a1 a2
            exact ⟨q, b1, b2, by rw [b3, h3 q b1]⟩
          · have hdec : (bif decide ((mid : Int) < (en : Int)) then some (decide ((en : Int) < (b : Int))) else some false) = some false := by
              by_cases h4 : mid < en
              · rw [decide_eq_true (show (mid : Int) < (en : Int) by omega), decide_eq_false (show ¬ (en : Int) < (b : Int) by omega)]; rfl
              · rw [decide_eq_false (show ¬ (mid : Int) < (en : Int) by omega)]; rfl
            rw [hdec]
            refine ⟨d2, rfl, h1, List.Perm.refl _, ?_, fun p _ => rfl, fun p a1 a2 => ⟨p, a1, a2, h3 p a1⟩⟩
            by_cases h4 : mid < en
            · have : en = b := by omega
              rw [← this]; exact so1
            · have : mid = en := by omega
              rw [this]; exact so2
        -- the left half
        have left : ∃ d2, d2.length = N ∧ d2.Perm d1 ∧ Sor R d2 a mid ∧ (∀ p, p < a ∨ mid ≤ p → d2.getD p 0 = d1.getD p 0) ∧ (∀ p, a ≤ p → p < mid → ∃ q, a ≤ q ∧ q < mid ∧ d2.getD p 0 = d1.getD q 0) ∧
            ((a < st ∧ st < mid) → symMerge_f k (a : Int) (st : Int) (mid : Int) (R, ()) d1 = some d2) ∧ (¬ (a < st ∧ st < mid) → d2 = d1) := by
          have so1 : Sor R d1 a st := fun p q a1 a2 a3 => by rw [x3 p (by omega), x3 q a3]; exact hS1 p q a1 a2 (by omega)
          have so2 : Sor R d1 st mid := Sor.shift (u := m) (v := en) (fun p q a1 a2 a3 => hS2 p q a1 a2 (by omega)) (by omega) x4 hstm (by omega)
          by_cases hx : a < st ∧ st < mid
          · obtain ⟨d2, y1, y2, y3, y4, y5, y6⟩ := ih a st mid d1 (by omega) hx.1 hx.2 (by omega) x1 hin1 so1 so2 (fun p q a1 a2 a3 a4 => by
              rw [x3 p a2, x4 q a3 a4]; exact hC _ _ a1 (by omega) (by omega) (by omega))
            exact ⟨d2, by omega, y3, y4, y5, y6, fun _ => y1, fun h => absurd hx h⟩
          · refine ⟨d1, x1, List.Perm.refl _, ?_, fun p _ => rfl, fun p a1 a2 => ⟨p, a1, a2, rfl⟩, fun h => absurd h hx, fun _ => rfl⟩
            by_cases h4 : a < st
            · have : st = mid := by omega
              rw [← this]; exact so1
            · have : a = st := by omega
              rw [this]; exact so2
        obtain ⟨d2, w1, w2, w3, w4, w5, w6, w7⟩ := left
        obtain ⟨d3, z1, z2, z3, z4, z5, z6⟩ := right d2 w1 w2 (fun p h => w4 p (.inr h))
        have idx : ∀ q, a ≤ q → q < mid → ∃ u, (a ≤ u ∧ u < st ∨ m ≤ u ∧ u < en) ∧ d1.getD q 0 = d.getD u 0 := fun q h1 h2 => by
          by_cases h : q < st
          · exact ⟨q, .inl ⟨h1, h⟩, x3 q h⟩
          · exact ⟨q - st + m, .inr ⟨by omega, by omega⟩, x4 q (by omega) h2⟩
        have idx2 : ∀ q, mid ≤ q → q < b → ∃ v, (st ≤ v ∧ v < m ∨ en ≤ v ∧ v < b) ∧ d1.getD q 0 = d.getD v 0 := fun q h1 h2 => by
          by_cases h : q < en
          · exact ⟨q - mid + st, .inl ⟨by omega, by omega⟩, x5 q h1 h⟩
          · exact ⟨q, .inr ⟨by omega, h2⟩, x6 q (by omega)⟩
        refine ⟨d3, ?_, by omega, (z3.trans w2).trans x2, fun p q h1 h2 h3 => ?_, fun p h => ?_, fun p h1 h2 => ?_⟩
        · have c3 : (bif decide ((st : Int) < (m : Int)) then some (decide ((m : Int) < (en : Int))) else some false) = some (decide (st < m ∧ m < en)) := by
            by_cases h4 : st < m
            · rw [decide_eq_true (show (st : Int) < (m : Int) by omega), cond_true]
              congr 1
              rw [decide_eq_decide]; omega
            · rw [decide_eq_false (show ¬ (st : Int) < (m : Int) by omega), cond_false, decide_eq_false (fun h => h4 h.1)]
          have c4 : (bif decide ((a : Int) < (st : Int)) then some (decide ((st : Int) < (mid : Int))) else some false) = some (decide (a < st ∧ st < mid)) := by
            by_cases h4 : a < st
            · rw [decide_eq_true (show (a : Int) < (st : Int) by omega), cond_true]
              congr 1
              rw [decide_eq_decide]; omega
            · rw [decide_eq_false (show ¬ (a : Int) < (st : Int) by omega), cond_false, decide_eq_false (fun h => h4 h.1)]
          rw [c3, c4]
          simp only [Option.bind_some]
          by_cases hx : st < m ∧ m < en
          · rw [decide_eq_true hx, cond_true, x7 hx]
            simp only [Option.bind_some]
            by_cases hy : a < st ∧ st < mid
            · rw [decide_eq_true hy, cond_true, w6 hy]
              simp only [Option.bind_some]
              exact z1
            · rw [decide_eq_false hy, cond_false]
              have := w7 hy
              subst this
              exact z1
          · rw [decide_eq_false hx, cond_false]
            have e := x8 hx
            subst e
            by_cases hy : a < st ∧ st < mid
            · rw [decide_eq_true hy, cond_true, w6 hy]
              simp only [Option.bind_some]
              exact z1
            · rw [decide_eq_false hy, cond_false]
              have := w7 hy
              subst this
              exact z1
        · by_cases hq : q < mid
          · rw [z5 p (.inl (by omega)), z5 q (.inl hq)]; exact w3 p q h1 h2 hq
          · by_cases hp : p < mid
            · rw [z5 p (.inl hp)]
              obtain ⟨p', a1, a2, a3⟩ := w5 p h1 hp
              obtain ⟨q', b1, b2, b3⟩ := z6 q (by omega) h3
              obtain ⟨u, hu, eu⟩ := idx p' a1 a2
              obtain ⟨v, hv, ev⟩ := idx2 q' b1 b2
              rw [a3, b3, eu, ev]
              exact LR u v hu hv
            · exact z4 p q (by omega) h2 h3
        · rw [z5 p (by omega)]
          rw [w4 p (by omega)]
          by_cases hp : p < a
          · exact x3 p (by omega)
          · exact x6 p (by omega)
        · by_cases hp : p < mid
          · rw [z5 p (.inl hp)]
            obtain ⟨p', a1, a2, a3⟩ := w5 p h1 hp
            obtain ⟨u, hu, eu⟩ := idx p' a1 a2
            exact ⟨u, by omega, by omega, by rw [a3, eu]⟩
          · obtain ⟨q', b1, b2, b3⟩ := z6 p (by omega) h2
            obtain ⟨v, hv, ev⟩ := idx2 q' b1 b2
            exact ⟨v, by omega, by omega, by rw [b3, ev]⟩
end Go.Lift.S17
