import Derived.Test.YtnbknlaejebjbaaPM17s
set_option linter.all false
/- The sort. -/
set_option linter.unusedSimpArgs false
set_option linter.unusedVariables false
namespace Go.Lift.S17
open Go Go.Lift Go.Lift.Ar

/-- A sorted block of the elements x to y - 1. -/
def Blk (R d : List Int) (x y : Nat) : Prop := Sor R d x y ∧ ∀ p, x ≤ p → p < y → (x : Int) ≤ d.getD p 0 ∧ d.getD p 0 < (y : Int)
theorem Blk.same {R d d' : List Int} {x y : Nat} (h : Blk R d x y) (e : ∀ p, x ≤ p → p < y → d'.getD p 0 = d.getD p 0) : Blk R d' x y :=
  ⟨fun p q h1 h2 h3 => by rw [e p h1 (by omega), e q (by omega) h3]; exact h.1 p q h1 h2 h3, fun p h1 h2 => by rw [e p h1 h2]; exact h.2 p h1 h2⟩

theorem merge_blk {R d : List Int} {N : Nat} (hN : N ≤ 2305843009213693952) {a m b : Nat} (ham : a < m) (hmb : m < b) (hb : b ≤ N) (hd : d.length = N) (hin : InB R d) (h1 : Blk R d a m) (h2 : Blk R d m b) :
    ∃ d', symMerge (a : Int) (m : Int) (b : Int) (R, ()) d = some d' ∧ d'.length = N ∧ d'.Perm d ∧ Blk R d' a b ∧ ∀ p, p < a ∨ b ≤ p → d'.getD p 0 = d.getD p 0 := by
  have hF : FUEL = 18446744073709551616 := rfl
  obtain ⟨d', g1, g2, g3, g4, g5, g6⟩ := symMerge_is R N hN FUEL a m b d (by omega) ham hmb hb hd hin h1.1 h2.1 (fun p q a1 a2 a3 a4 => by
    have := (h1.2 p a1 a2).2; have := (h2.2 q a3 a4).1; omega)
  refine ⟨d', g1, by omega, g3, ⟨g4, fun p a1 a2 => ?_⟩, g5⟩
  obtain ⟨q, b1, b2, b3⟩ := g6 p a1 a2
  rw [b3]
  by_cases hq : q < m
  · have := h1.2 q b1 hq; omega
  · have := h2.2 q (by omega) b2; omega

theorem ins_blk {R d : List Int} {n : Nat} (hn : n ≤ 2305843009213693952) {a b : Nat} (hab : a ≤ b) (hb : b ≤ n) (hd : d.length = n) (hin : InB R d) (hid : ∀ p, a ≤ p → p < b → d.getD p 0 = (p : Int)) :
    ∃ d', insertion (a : Int) (b : Int) (R, ()) d = some d' ∧ d'.length = n ∧ d'.Perm d ∧ Blk R d' a b ∧ ∀ p, p < a ∨ b ≤ p → d'.getD p 0 = d.getD p 0 := by
  have hF : FUEL = 18446744073709551616 := rfl
  obtain ⟨d', g1, g2, g3, g4, g5, g6⟩ := ins_outer R a b n hb (by omega) FUEL (a + 1) d (by omega) (by omega) (by omega) hd hin (fun p q h1 h2 h3 => by omega) (fun p q h1 h2 h3 h4 => by
    rw [hid p h1 (by omega), hid q (by omega) h4]; omega)
  refine ⟨d', ?_, g2, g3, ⟨fun p q h1 h2 h3 => g4 p q h1 h2 h3, fun p h1 h2 => ?_⟩, g5⟩
  · unfold insertion insertion_body
    rw [bind_eta]
    have w : wi ((a : Int) + 1) = ((a + 1 : Nat) : Int) := wi_id _ (by omega) (by omega)
    rw [w]
    exact g1
  · obtain ⟨q, m1, m2, m3⟩ := g6 p h1 h2
    rw [m3, hid q m1 m2]; omega

/-- Blocks of the length s, from lo on, up to hi. -/
def Bs (R d : List Int) (n s lo hi : Nat) : Prop := ∀ j, lo ≤ j * s → j * s < hi → Blk R d (j * s) (Nat.min (j * s + s) n)

theorem loop2_is (R : List Int) (n : Nat) (hn : n ≤ 2305843009213693952) : ∀ (k i : Nat) (d : List Int), n < i * 20 + k * 20 → i * 20 ≤ n → d.length = n → InB R d → d.Perm (idn n) → Bs R d n 20 0 (i * 20) → (∀ p, i * 20 ≤ p → p < n → d.getD p 0 = (p : Int)) →
    ∃ i' d', stable_loop2 share2 insertion symMerge k (n : Int) (R, ()) 20 ((i * 20 : Nat) : Int) ((i * 20 + 20 : Nat) : Int) d = some ((n : Int), (R, ()), 20, ((i' * 20 : Nat) : Int), d') ∧ i' * 20 ≤ n ∧ n < i' * 20 + 20 ∧ d'.length = n ∧ InB R d' ∧ d'.Perm (idn n) ∧ Bs R d' n 20 0 (i' * 20) ∧ (∀ p, i' * 20 ≤ p → p < n → d'.getD p 0 = (p : Int)) := by
  intro k
  induction k with
  | zero => intro i d h h2; omega
  | succ k ih =>
    intro i d hk hi hd hin hp hb hid
    unfold stable_loop2 stable_loop2_step
    by_cases h : i * 20 + 20 ≤ n
    · rw [decide_eq_true (show (((i * 20 + 20 : Nat) : Int)) ≤ (n : Int) by omega), cond_true]
      obtain ⟨d1, g1, g2, g3, g4, g5⟩ := ins_blk (R := R) hn (show i * 20 ≤ i * 20 + 20 by omega) h hd hin (fun p h1 h2 => hid p h1 (by omega))
      rw [g1]
      simp only [Option.bind_some]
      have w : wi (((i * 20 + 20 : Nat) : Int) + 20) = (((i + 1) * 20 + 20 : Nat) : Int) := by rw [wi_id _ (by omega) (by omega)]; omega
      rw [w, show i * 20 + 20 = (i + 1) * 20 by omega]
      refine ih (i + 1) d1 (by omega) (by omega) g2 (fun x hx => hin x (g3.mem_iff.1 hx)) (g3.trans hp) (fun j h1 h2 => ?_) (fun p h1 h2 => by rw [g5 p (by omega)]; exact hid p (by omega) h2)
      have hmin : Nat.min (j * 20 + 20) n = j * 20 + 20 := Nat.min_eq_left (by omega)
      rw [hmin]
      by_cases hj : j = i
      · rw [hj]; exact g4
      · have := hb j h1 (by omega)
        rw [hmin] at this
        exact this.same fun p a1 a2 => g5 p (by omega)
    · rw [decide_eq_false (show ¬ (((i * 20 + 20 : Nat) : Int)) ≤ (n : Int) by omega), cond_false]
      exact ⟨i, d, rfl, hi, by omega, hd, hin, hp, hb, hid⟩

theorem loop9_blk (R : List Int) (n s : Nat) (hn : n ≤ 2305843009213693952) (hs : 0 < s) (hsn : s < n) : ∀ (k i : Nat) (d : List Int), n < i * (2 * s) + k → i * (2 * s) ≤ n → d.length = n → InB R d → d.Perm (idn n) → Bs R d n (2 * s) 0 (i * (2 * s)) → Bs R d n s (i * (2 * s)) n →
    ∃ i' d', stable_loop9 share2 insertion symMerge k (n : Int) (R, ()) (s : Int) ((i * (2 * s) : Nat) : Int) ((i * (2 * s) + 2 * s : Nat) : Int) d = some ((n : Int), (R, ()), (s : Int), ((i' * (2 * s) : Nat) : Int), d') ∧ i' * (2 * s) ≤ n ∧ n < i' * (2 * s) + 2 * s ∧ d'.length = n ∧ InB R d' ∧ d'.Perm (idn n) ∧ Bs R d' n (2 * s) 0 (i' * (2 * s)) ∧ Bs R d' n s (i' * (2 * s)) n := by
  intro k
  induction k with
  | zero => intro i d h h2; omega
  | succ k ih =>
    intro i d hk hi hd hin hp hb1 hb2
    unfold stable_loop9 stable_loop9_step
    have w1 : wi (2 * (s : Int)) = ((2 * s : Nat) : Int) := by rw [wi_id _ (by omega) (by omega)]; omega
    rw [w1]
    obtain ⟨A, hA⟩ : ∃ A, A = i * (2 * s) := ⟨_, rfl⟩
    have hA1 : (i + 1) * (2 * s) = A + 2 * s := by rw [Nat.add_mul, hA]; omega
    have hj0 : (2 * i) * s = A := by rw [hA, Nat.mul_comm 2 i, Nat.mul_assoc]
    have hj1 : (2 * i + 1) * s = A + s := by rw [Nat.add_mul, hj0]; omega
    rw [← hA] at hk hi hb1 hb2 ⊢
    by_cases h : A + 2 * s ≤ n
    · rw [decide_eq_true (show (((A + 2 * s : Nat) : Int)) ≤ (n : Int) by omega), cond_true]
      have w2 : wi (((A : Nat) : Int) + (s : Int)) = ((A + s : Nat) : Int) := wi_id _ (by omega) (by omega)
      have w3 : wi (((A + 2 * s : Nat) : Int) + ((2 * s : Nat) : Int)) = ((A + 2 * s + 2 * s : Nat) : Int) := wi_id _ (by omega) (by omega)
      have b1 := hb2 (2 * i) (by omega) (by omega)
      have b2 := hb2 (2 * i + 1) (by omega) (by omega)
      rw [hj0, show Nat.min (A + s) n = A + s from Nat.min_eq_left (by omega)] at b1
      rw [hj1, show Nat.min (A + s + s) n = A + 2 * s from (Nat.min_eq_left (show A + s + s ≤ n by omega)).trans (by omega)] at b2
      obtain ⟨d1, g1, g2, g3, g4, g5⟩ := merge_blk (R := R) hn (show A < A + s by omega) (show A + s < A + 2 * s by omega) h hd hin b1 b2
      rw [w2, w3, g1]
      simp only [Option.bind_some]
      have nx := ih (i + 1) d1
      rw [hA1] at nx
      refine nx (by omega) (by omega) g2 (fun x hx => hin x (g3.mem_iff.1 hx)) (g3.trans hp) (fun j h1 h2 => ?_) (fun j h1 h2 => ?_)
      · by_cases hj : j < i
        · have hle : (j + 1) * (2 * s) ≤ i * (2 * s) := Nat.mul_le_mul_right _ (by omega)
          rw [Nat.add_mul, ← hA, Nat.one_mul] at hle
          have hmin : Nat.min (j * (2 * s) + 2 * s) n = j * (2 * s) + 2 * s := Nat.min_eq_left (by omega)
          have := hb1 j h1 (by omega)
          rw [hmin] at this ⊢
          exact this.same fun p a1 a2 => g5 p (by omega)
        · have hji : j = i := by
            rcases Nat.lt_or_ge i j with h3 | h3
            · have : (i + 1) * (2 * s) ≤ j * (2 * s) := Nat.mul_le_mul_right _ (by omega)
              omega
            · omega
          rw [hji, ← hA, show Nat.min (A + 2 * s) n = A + 2 * s from Nat.min_eq_left h]
          exact g4
      · have := hb2 j (by omega) h2
        exact this.same fun p a1 a2 => g5 p (by omega)
    · rw [decide_eq_false (show ¬ (((A + 2 * s : Nat) : Int)) ≤ (n : Int) by omega), cond_false]
      exact ⟨i, d, by rw [← hA], by omega, by omega, hd, hin, hp, by rw [← hA]; exact hb1, by rw [← hA]; exact hb2⟩

theorem loop7_is (R : List Int) (n : Nat) (hn : n ≤ 2305843009213693952) : ∀ (k s : Nat) (d : List Int), 1 ≤ k → n < s + k → 0 < s → d.length = n → InB R d → d.Perm (idn n) → Bs R d n s 0 n →
    ∃ d', stable_loop7 share2 insertion symMerge k (n : Int) (R, ()) (s : Int) d = some d' ∧ Srt R d' n := by
  intro k
  induction k with
  | zero =>
    intro s d h1; omega
  | succ k ih =>
    intro s d _ h hs hd hin hp hb
    have hF : FUEL = 18446744073709551616 := rfl
    unfold stable_loop7 stable_loop7_step
    by_cases hsn : s < n
    · rw [decide_eq_true (show (s : Int) < (n : Int) by omega), cond_true]
      have w1 : wi (2 * (s : Int)) = ((2 * s : Nat) : Int) := by rw [wi_id _ (by omega) (by omega)]; omega
      obtain ⟨i, d1, g1, g2, g3, g4, g5, g6, g7, g8⟩ := loop9_blk R n s hn hs hsn FUEL 0 d (by omega) (by omega) hd hin hp (fun j h1 h2 => by omega) (fun j h1 h2 => hb j (by omega) h2)
      rw [Nat.zero_mul, Nat.zero_add] at g1
      have g1' : stable_loop9 share2 insertion symMerge FUEL (n : Int) (R, ()) (s : Int) 0 ((2 * s : Nat) : Int) d = _ := g1
      rw [w1, g1']
      simp only [Option.bind_some]
      obtain ⟨A, hA⟩ : ∃ A, A = i * (2 * s) := ⟨_, rfl⟩
      have hj0 : (2 * i) * s = A := by rw [hA, Nat.mul_comm 2 i, Nat.mul_assoc]
      have hj1 : (2 * i + 1) * s = A + s := by rw [Nat.add_mul, hj0]; omega
      rw [← hA] at g2 g3 g7 g8 ⊢
      have w2 : wi (((A : Nat) : Int) + (s : Int)) = ((A + s : Nat) : Int) := wi_id _ (by omega) (by omega)
      have w3 : wi ((s : Int) * 2) = ((2 * s : Nat) : Int) := by rw [wi_id _ (by omega) (by omega)]; omega
      rw [w2, w3]
      have low : ∀ d2 : List Int, (∀ p, p < A → d2.getD p 0 = d1.getD p 0) → ∀ j, j * (2 * s) < A → Blk R d2 (j * (2 * s)) (Nat.min (j * (2 * s) + 2 * s) n) := fun d2 e j hj => by
        have hji : j < i := by
          rcases Nat.lt_or_ge j i with h3 | h3
          · exact h3
          · have : i * (2 * s) ≤ j * (2 * s) := Nat.mul_le_mul_right _ h3
            omega
        have hle : (j + 1) * (2 * s) ≤ i * (2 * s) := Nat.mul_le_mul_right _ (by omega)
        rw [Nat.add_mul, ← hA, Nat.one_mul] at hle
        have hmin : Nat.min (j * (2 * s) + 2 * s) n = j * (2 * s) + 2 * s := Nat.min_eq_left (by omega)
        have := g7 j (by omega) hj
        rw [hmin] at this ⊢
        exact this.same fun p a1 a2 => e p (by omega)
      have top : ∀ j, A ≤ j * (2 * s) → j * (2 * s) < n → j * (2 * s) = A := fun j h1 h2 => by
        rcases Nat.lt_or_ge i j with h3 | h3
        · have : (i + 1) * (2 * s) ≤ j * (2 * s) := Nat.mul_le_mul_right _ (by omega)
          rw [Nat.add_mul, ← hA] at this; omega
        · have : j * (2 * s) ≤ i * (2 * s) := Nat.mul_le_mul_right _ h3
          omega
      by_cases hx : A + s < n
      · rw [decide_eq_true (show ((A + s : Nat) : Int) < (n : Int) by omega), cond_true]
        have b1 := g8 (2 * i) (by omega) (by omega)
        have b2 := g8 (2 * i + 1) (by omega) (by omega)
        rw [hj0, show Nat.min (A + s) n = A + s from Nat.min_eq_left (by omega)] at b1
        rw [hj1, show Nat.min (A + s + s) n = n from Nat.min_eq_right (by omega)] at b2
        obtain ⟨d2, y1, y2, y3, y4, y5⟩ := merge_blk (R := R) hn (show A < A + s by omega) hx (Nat.le_refl n) g4 g5 b1 b2
        rw [y1]
        simp only [Option.bind_some]
        refine ih (2 * s) d2 (by omega) (by omega) (by omega) y2 (fun x hx => g5 x (y3.mem_iff.1 hx)) (y3.trans g6) (fun j h1 h2 => ?_)
        by_cases hj : j * (2 * s) < A
        · exact low d2 (fun p hp => y5 p (.inl hp)) j hj
        · have e := top j (by omega) h2
          rw [e, show Nat.min (A + 2 * s) n = n from Nat.min_eq_right (by omega)]
          exact y4
      · rw [decide_eq_false (show ¬ ((A + s : Nat) : Int) < (n : Int) by omega), cond_false]
        refine ih (2 * s) d1 (by omega) (by omega) (by omega) g4 g5 g6 (fun j h1 h2 => ?_)
        by_cases hj : j * (2 * s) < A
        · exact low d1 (fun p _ => rfl) j hj
        · have e := top j (by omega) h2
          have b1 := g8 (2 * i) (by omega) (by omega)
          rw [hj0, show Nat.min (A + s) n = n from Nat.min_eq_right (by omega)] at b1
          rw [e, show Nat.min (A + 2 * s) n = n from Nat.min_eq_right (by omega)]
          exact b1
    · rw [decide_eq_false (show ¬ (s : Int) < (n : Int) by omega), cond_false]
      refine ⟨d, rfl, hd, hp, fun p q h1 h2 => ?_⟩
      have b := hb 0 (by omega) (by omega)
      rw [Nat.zero_mul, Nat.zero_add, show Nat.min s n = n from Nat.min_eq_right (by omega)] at b
      exact b.1 p q (by omega) h1 h2

theorem sortStable_is (R : List Int) (n : Nat) (hR : R.length = n) (hn : n ≤ 2305843009213693952) : ∃ d, sortStable (R, ()) (idn n) = some d ∧ Srt R d n := by
  have hF : FUEL = 18446744073709551616 := rfl
  unfold sortStable sortStable_body stable stable_body
  have hin : InB R (idn n) := fun x hx => by
    simp only [idn, List.mem_map, List.mem_range] at hx
    obtain ⟨i, hi, rfl⟩ := hx
    omega
  obtain ⟨i, d, g1, g2, g3, g4, g5, g6, g7, g8⟩ := loop2_is R n hn FUEL 0 (idn n) (by omega) (by omega) (idn_length n) hin (List.Perm.refl _) (fun j h1 h2 => by omega) (fun p h1 h2 => idn_getD n p h2)
  have g1' : stable_loop2 share2 insertion symMerge FUEL (n : Int) (R, ()) 20 0 20 (idn n) = _ := g1
  rw [idn_length, g1']
  simp only [Option.bind_some]
  obtain ⟨d1, y1, y2, y3, y4, y5⟩ := ins_blk (R := R) hn g2 (Nat.le_refl n) g4 g5 g8
  rw [y1]
  simp only [Option.bind_some]
  obtain ⟨d2, z1, z2⟩ := loop7_is R n hn FUEL 20 d1 (by omega) (by omega) (by omega) y2 (fun x hx => g5 x (y3.mem_iff.1 hx)) (y3.trans g6) (fun j h1 h2 => by
    by_cases hj : j * 20 < i * 20
    · have := g7 j h1 hj
      have hmin : Nat.min (j * 20 + 20) n = j * 20 + 20 := Nat.min_eq_left (by omega)
      rw [hmin] at this ⊢
      exact this.same fun p a1 a2 => y5 p (by omega)
    · have e : j = i := by omega
      rw [e, show Nat.min (i * 20 + 20) n = n from Nat.min_eq_right (by omega)]
      exact y4)
  have z1' : stable_loop7 share2 insertion symMerge FUEL (n : Int) (R, ()) 20 d1 = some d2 := z1
  rw [z1']
  exact ⟨d2, rfl, z2⟩
end Go.Lift.S17
