import Derived.Test.YthomehfmoddgjaaPT18
set_option linter.all false
/- The statement ReachTells. -/
set_option linter.unusedSimpArgs false
set_option linter.unusedVariables false
namespace Go.Lift.S18
open Go Go.Lift Go.Lift.Ar

def fewP (q : List Ld) : Prop := (∀ l, l ∈ q → l.2.2.1.length ≤ 6) ∧ q.length ≤ 20

theorem few_loop_is (q : List Ld) (hl : q.length ≤ 9223372036854775807) : ∀ (k i : Nat), q.length < i + k → i ≤ q.length →
    few_loop2 k q i = some (.inl q) ∧ (∀ l, l ∈ q.drop i → l.2.2.1.length ≤ 6) ∨ few_loop2 k q i = some (.inr false) ∧ ¬ (∀ l, l ∈ q.drop i → l.2.2.1.length ≤ 6) := by
  intro k
  induction k with
  | zero => intro i h hi; omega
  | succ k ih =>
    intro i h hi0
    unfold few_loop2 few_loop2_step
    rw [Int.toNat_natCast]
    by_cases hi : i < q.length
    · rw [drop_cons q i (Ty.zero t_api_Load) hi, inb _ _ hi]
      generalize List.getD q i (Ty.zero t_api_Load) = l at *
      have hi' : (i : Int) < (q.length : Int) := by omega
      simp only [hi', decide_true, cond_true, wi_id ((i : Int) + 1) (by omega) (by omega)]
      by_cases hc : l.2.2.1.length ≤ 6
      · rw [decide_eq_false (by omega), cond_false]
        rcases ih (i + 1) (by omega) (by omega) with ⟨h1, h2⟩ | ⟨h1, h2⟩
        · refine .inl ⟨h1, fun m hm => ?_⟩
          rcases List.mem_cons.1 hm with rfl | hm
          · exact hc
          · exact h2 m hm
        · exact .inr ⟨h1, fun hh => h2 fun m hm => hh m (by simp [hm])⟩
      · rw [decide_eq_true (by omega), cond_true]
        exact .inr ⟨rfl, fun hh => hc (hh l (by simp))⟩
    · have hi' : ¬ (i : Int) < (q.length : Int) := by omega
      rw [(List.drop_eq_nil_of_le (by omega) : q.drop i = [])]
      simp only [hi', decide_false, cond_false]
      exact .inl ⟨trivial, fun l hl => by cases hl⟩

theorem few_eq (q : List Ld) (hl : q.length ≤ 9223372036854775807) : ∃ b, few q = some b ∧ (b = true ↔ fewP q) := by
  unfold few few_body
  rcases few_loop_is q hl FUEL 0 (fuel_gt _ hl) (by omega) with ⟨h1, h2⟩ | ⟨h1, h2⟩
  · have h1' : few_loop2 FUEL q 0 = _ := h1
    rw [h1']
    refine ⟨decide ((q.length : Int) ≤ 20), rfl, ?_⟩
    rw [decide_eq_true_eq]
    rw [List.drop_zero] at h2
    exact ⟨fun h => ⟨h2, by omega⟩, fun h => by have := h.2; omega⟩
  · have h1' : few_loop2 FUEL q 0 = _ := h1
    rw [h1']
    rw [List.drop_zero] at h2
    refine ⟨false, rfl, ?_⟩
    simp only [Bool.false_eq_true, false_iff]
    exact fun h => h2 h.1

def anyPos (l : List Int) : Bool := l.any fun x => decide (x > 0)

theorem index_loop_is (s : List Int) (hl : s.length ≤ 9223372036854775807) : ∀ (k i : Nat), s.length < i + k → i ≤ s.length →
    indexFunc_loop2 push1 k s (s.length : Int) i = some (.inl ()) ∧ anyPos (s.drop i) = false ∨ (∃ j : Nat, indexFunc_loop2 push1 k s (s.length : Int) i = some (.inr (j : Int))) ∧ anyPos (s.drop i) = true := by
  intro k
  induction k with
  | zero => intro i h hi; omega
  | succ k ih =>
    intro i h hi0
    unfold indexFunc_loop2 indexFunc_loop2_step
    rw [Int.toNat_natCast]
    by_cases hi : i < s.length
    · rw [drop_cons s i 0 hi, inb _ _ hi]
      generalize List.getD s i 0 = x at *
      have hi' : (i : Int) < (s.length : Int) := by omega
      simp only [hi', decide_true, cond_true, push1, push1_body, Option.bind_some, wi_id ((i : Int) + 1) (by omega) (by omega), anyPos, List.any_cons]
      by_cases hx : x > 0
      · simp only [hx, decide_true, cond_true, Bool.true_or]
        exact .inr ⟨⟨i, rfl⟩, trivial⟩
      · simp only [hx, decide_false, cond_false, Bool.false_or]
        exact ih (i + 1) (by omega) (by omega)
    · have hi' : ¬ (i : Int) < (s.length : Int) := by omega
      rw [(List.drop_eq_nil_of_le (by omega) : s.drop i = [])]
      simp only [hi', decide_false, cond_false]
      exact .inl ⟨trivial, rfl⟩

theorem contains_eq (s : List Int) (hl : s.length ≤ 9223372036854775807) : containsFunc s = some (anyPos s) := by
  unfold containsFunc containsFunc_body indexFunc indexFunc_body
  rcases index_loop_is s hl FUEL 0 (fuel_gt _ hl) (by omega) with ⟨h1, h2⟩ | ⟨⟨j, h1⟩, h2⟩
  · have h1' : indexFunc_loop2 push1 FUEL s (s.length : Int) 0 = _ := h1
    rw [List.drop_zero] at h2
    rw [h1', h2]; rfl
  · have h1' : indexFunc_loop2 push1 FUEL s (s.length : Int) 0 = _ := h1
    rw [List.drop_zero] at h2
    rw [h1', h2]
    simp only [Option.bind_some, Sum.elim, Option.some.injEq]
    exact decide_eq_true (by omega)

/-- What a push leaves. -/
def pushed (q : List Ld) (a t : Int) (part : List Int) : List Ld := if t < 0 ∨ anyPos part = false then q else q ++ [(a, t, part, ())]

theorem push_eq (q : List Ld) (a t : Int) (part : List Int) (hl : part.length ≤ 9223372036854775807) (hq : q.length ≤ 1000) : push q a t part = some (pushed q a t part) := by
  unfold push push_body pushed
  rw [contains_eq part hl]
  by_cases ht : t < 0
  · simp only [ht, decide_true, cond_true, Option.bind_some, true_or, if_true]
  · simp only [ht, decide_false, cond_false, Option.bind_some, false_or]
    cases hp : anyPos part
    · simp only [Bool.not_false, cond_true, if_true]
    · have g : (decide ((0 : Int) ≤ (q.length : Int)) && decide ((q.length : Int) ≤ (q.length : Int)) && ((q.length : Int) == (q.length : Int) && true)) = true := by simp
      rw [g, Bool.not_true, cond_false, cond_true, Int.toNat_natCast, List.take_length, List.drop_zero, if_neg (by simp), app1, roomD (by rw [List.length_append]; simp; omega), cond_true]

theorem push_r_loop_is (q : List Ld) (a t : Int) (part : List Int) (hl : part.length ≤ 9223372036854775807) : ∀ (k i : Nat) (b : Bool), part.length < i + k → i ≤ part.length →
    push_r_loop3 k q a t part b i = some (q, a, t, part, b || anyPos (part.drop i)) := by
  intro k
  induction k with
  | zero => intro i b h hi; omega
  | succ k ih =>
    intro i b h hi0
    unfold push_r_loop3 push_r_loop3_step
    rw [Int.toNat_natCast]
    by_cases hi : i < part.length
    · rw [drop_cons part i 0 hi, inb _ _ hi]
      generalize List.getD part i 0 = x at *
      have hi' : (i : Int) < (part.length : Int) := by omega
      simp only [hi', decide_true, cond_true, sc_or, Option.bind_some, wi_id ((i : Int) + 1) (by omega) (by omega)]
      have := ih (i + 1) (b || decide (x > 0)) (by omega) (by omega)
      simp only [anyPos, List.any_cons] at this ⊢
      rw [Bool.or_assoc] at this
      exact this
    · have hi' : ¬ (i : Int) < (part.length : Int) := by omega
      rw [(List.drop_eq_nil_of_le (by omega) : part.drop i = [])]
      simp only [hi', decide_false, cond_false, anyPos, List.any_nil, Bool.or_false]

theorem push_r_eq (q : List Ld) (a t : Int) (part : List Int) (hl : part.length ≤ 9223372036854775807) (hq : q.length ≤ 1000) : push_r q a t part = some (pushed q a t part) := by
  unfold push_r push_r_body pushed
  have h : push_r_loop3 FUEL q a t part false 0 = _ := push_r_loop_is q a t part hl FUEL 0 false (fuel_gt _ hl) (by omega)
  rw [h, List.drop_zero, Bool.false_or]
  simp only [Option.bind_some, sc_or]
  by_cases ht : t < 0
  · simp only [ht, decide_true, Bool.true_or, cond_true, true_or, if_true]
  · simp only [ht, decide_false, Bool.false_or, false_or]
    cases hp : anyPos part
    · simp only [Bool.not_false, cond_true, if_true]
    · rw [Bool.not_true, cond_false, if_neg (by simp)]
      have e : (nilOf t_api_Load.den ++ q) = q := rfl
      rw [e, roomD (by omega), cond_true, app1, roomD (by rw [List.length_append]; simp; omega), cond_true]

theorem sameInts_refl (a : List Int) (hl : a.length ≤ 9223372036854775807) : sameInts a a = some true := by
  unfold sameInts sameInts_body
  rw [bne_self_eq_false, cond_false]
  have g : ∀ (k i : Nat), a.length < i + k → i ≤ a.length → sameInts_loop4 k a a i = some (.inl ()) := by
    intro k
    induction k with
    | zero => intro i h hi; omega
    | succ k ih =>
      intro i h hi0
      unfold sameInts_loop4 sameInts_loop4_step
      by_cases hi : i < a.length
      · rw [inb _ _ hi, bne_self_eq_false]
        have hi' : (i : Int) < (a.length : Int) := by omega
        simp only [hi', decide_true, cond_true, cond_false, wi_id ((i : Int) + 1) (by omega) (by omega)]
        exact ih (i + 1) (by omega) (by omega)
      · have hi' : ¬ (i : Int) < (a.length : Int) := by omega
        simp only [hi', decide_false, cond_false]
  have g' : sameInts_loop4 FUEL a a 0 = _ := g FUEL 0 (fuel_gt _ hl) (by omega)
  rw [g']; rfl

theorem sameLists_refl (a : List (List Int)) (hl : a.length ≤ 9223372036854775807) (hs : ∀ x, x ∈ a → x.length ≤ 9223372036854775807) : sameLists a a = some true := by
  unfold sameLists sameLists_body
  rw [bne_self_eq_false, cond_false]
  have g : ∀ (k i : Nat), a.length < i + k → i ≤ a.length → sameLists_loop4 sameInts k a a i = some (.inl ()) := by
    intro k
    induction k with
    | zero => intro i h hi; omega
    | succ k ih =>
      intro i h hi0
      unfold sameLists_loop4 sameLists_loop4_step
      rw [Int.toNat_natCast]
      by_cases hi : i < a.length
      · rw [inb _ _ hi]
        have hm := hs _ (getD_mem a i (nilOf Int) hi)
        have hi' : (i : Int) < (a.length : Int) := by omega
        simp only [hi', decide_true, cond_true, cond_false, wi_id ((i : Int) + 1) (by omega) (by omega), sameInts_refl _ hm, Option.bind_some, Bool.not_true]
        exact ih (i + 1) (by omega) (by omega)
      · have hi' : ¬ (i : Int) < (a.length : Int) := by omega
        simp only [hi', decide_false, cond_false]
  have g' : sameLists_loop4 sameInts FUEL a a 0 = _ := g FUEL 0 (fuel_gt _ hl) (by omega)
  rw [g']; rfl

theorem sameLoads_refl (a : List Ld) (hl : a.length ≤ 9223372036854775807) (hs : ∀ x, x ∈ a → x.2.2.1.length ≤ 9223372036854775807) : sameLoads a a = some true := by
  unfold sameLoads sameLoads_body
  rw [bne_self_eq_false, cond_false]
  have g : ∀ (k i : Nat), a.length < i + k → i ≤ a.length → sameLoads_loop4 sameInts k a a i = some (.inl ()) := by
    intro k
    induction k with
    | zero => intro i h hi; omega
    | succ k ih =>
      intro i h hi0
      unfold sameLoads_loop4 sameLoads_loop4_step
      rw [Int.toNat_natCast]
      by_cases hi : i < a.length
      · rw [inb _ _ hi]
        have hm := hs _ (getD_mem a i (Ty.zero t_api_Load) hi)
        have hi' : (i : Int) < (a.length : Int) := by omega
        simp only [hi', decide_true, cond_true, cond_false, wi_id ((i : Int) + 1) (by omega) (by omega), bne_self_eq_false, sameInts_refl _ hm, Option.bind_some, Bool.not_true]
        exact ih (i + 1) (by omega) (by omega)
      · have hi' : ¬ (i : Int) < (a.length : Int) := by omega
        simp only [hi', decide_false, cond_false]
  have g' : sameLoads_loop4 sameInts FUEL a a 0 = _ := g FUEL 0 (fuel_gt _ hl) (by omega)
  rw [g']; rfl

def inOffice (b : t_api_Basin.den) (office : Int) (l : Ld) : Bool :=
  decide (l.2.1 ≥ 0) && decide (l.2.1 < (b.snd.snd.snd.fst.length : Int)) && ((List.getD b.snd.snd.snd.fst (Int.toNat l.2.1) (Ty.zero t_api_Place)).snd.snd.fst == office)
def und (b : t_api_Basin.den) (office : Int) (s : Int) (l : Ld) : Int := if inOffice b office l = true then sat (s + tot l.2.2.1) else s

theorem tot_in {l : List Int} : InR (tot l) := by
  unfold tot
  suffices h : ∀ (l : List Int) n, InR n → InR (l.foldl (fun a x => sat (a + x)) n) from h l 0 InR0
  intro l
  induction l with
  | nil => intro n h; exact h
  | cons x l ih => intro n h; exact ih _ (sat_in _)

theorem und_in {b : t_api_Basin.den} {o : Int} {s : Int} {l : Ld} (h : InR s) : InR (und b o s l) := by
  unfold und; split
  · exact sat_in _
  · exact h

theorem under_loop_is (b : t_api_Basin.den) (o : Int) (q : List Ld) (hq : Qu q) : ∀ (k i : Nat) (s : Int), q.length < i + k → i ≤ q.length → InR s →
    under_loop3 add total k o s q (q.length : Int) i b = some ((q.drop i).foldl (und b o) s) := by
  have hq1 := hq.1
  intro k
  induction k with
  | zero => intro i s h hi; omega
  | succ k ih =>
    intro i s h hi0 hs
    unfold under_loop3 under_loop3_step
    rw [Int.toNat_natCast]
    by_cases hi : i < q.length
    · have hm := hq.2 _ (getD_mem q i (Ty.zero t_api_Load) hi)
      rw [drop_cons q i (Ty.zero t_api_Load) hi, inb _ _ hi]
      generalize List.getD q i (Ty.zero t_api_Load) = l at *
      have hi' : (i : Int) < (q.length : Int) := by omega
      have ht : total l.snd.snd.fst = some (tot l.2.2.1) := total_eq _ hm.2 (by have := hm.1; omega)
      have ha := add_eq s (tot l.2.2.1) hs tot_in
      have n1 := ih (i + 1) (und b o s l) (by omega) (by omega) (und_in hs)
      simp only [hi', decide_true, cond_true, sc_and, Option.bind_some, wi_id ((i : Int) + 1) (by omega) (by omega), ht, List.foldl_cons]
      unfold und inOffice at n1 ⊢
      cases c1 : decide (l.snd.fst ≥ 0) <;> cases c2 : decide (l.snd.fst < (List.length b.snd.snd.snd.fst : Int)) <;> rw [c1, c2] at n1 <;>
        simp only [Bool.and_false, Bool.false_and, Bool.and_self, Bool.true_and, Bool.false_eq_true, if_false, cond_false, cond_true, Option.bind_some] at n1 ⊢ <;> try exact n1
      cases c4 : (List.getD b.snd.snd.snd.fst (Int.toNat l.snd.fst) (Ty.zero t_api_Place)).snd.snd.fst == o <;> rw [c4] at n1 <;>
        simp only [Bool.false_eq_true, if_false, if_true, cond_false, cond_true, Option.bind_some, ha] at n1 ⊢ <;> exact n1
    · have hi' : ¬ (i : Int) < (q.length : Int) := by omega
      rw [(List.drop_eq_nil_of_le (by omega) : q.drop i = [])]
      simp only [hi', decide_false, cond_false, List.foldl_nil]

theorem under_r_loop_is (b : t_api_Basin.den) (o : Int) (q : List Ld) (hq : Qu q) : ∀ (k i : Nat) (s : Int), q.length < i + k → i ≤ q.length → InR s →
    under_r_loop3 add_r total_r k q o s i b = some ((q.drop i).foldl (und b o) s) := by
  have hq1 := hq.1
  intro k
  induction k with
  | zero => intro i s h hi; omega
  | succ k ih =>
    intro i s h hi0 hs
    unfold under_r_loop3 under_r_loop3_step
    rw [Int.toNat_natCast]
    by_cases hi : i < q.length
    · have hm := hq.2 _ (getD_mem q i (Ty.zero t_api_Load) hi)
      rw [drop_cons q i (Ty.zero t_api_Load) hi, inb _ _ hi]
      generalize List.getD q i (Ty.zero t_api_Load) = l at *
      have hi' : (i : Int) < (q.length : Int) := by omega
      have ht : total_r l.snd.snd.fst = some (tot l.2.2.1) := total_r_eq _ hm.2 (by have := hm.1; omega)
      have ha := add_r_eq s (tot l.2.2.1) hs tot_in
      have n1 := ih (i + 1) (und b o s l) (by omega) (by omega) (und_in hs)
      simp only [hi', decide_true, cond_true, sc_and, Option.bind_some, wi_id ((i : Int) + 1) (by omega) (by omega), ht, ha, List.foldl_cons]
      unfold und inOffice at n1 ⊢
      cases c1 : decide (l.snd.fst ≥ 0) <;> cases c2 : decide (l.snd.fst < (List.length b.snd.snd.snd.fst : Int)) <;> rw [c1, c2] at n1 <;>
        simp only [Bool.and_false, Bool.false_and, Bool.and_self, Bool.true_and, Bool.false_eq_true, if_false, cond_false, cond_true, Option.bind_some] at n1 ⊢ <;> try exact n1
      cases c4 : (List.getD b.snd.snd.snd.fst (Int.toNat l.snd.fst) (Ty.zero t_api_Place)).snd.snd.fst == o <;> rw [c4] at n1 <;>
        simp only [Bool.false_eq_true, if_false, if_true, cond_false, cond_true, Option.bind_some] at n1 ⊢ <;> exact n1
    · have hi' : ¬ (i : Int) < (q.length : Int) := by omega
      rw [(List.drop_eq_nil_of_le (by omega) : q.drop i = [])]
      simp only [hi', decide_false, cond_false, List.foldl_nil]

theorem under_eq (b : t_api_Basin.den) (o : Int) (q : List Ld) (hq : Qu q) : under q b o = some (q.foldl (und b o) 0) := by
  unfold under under_body
  rw [bind_eta]
  exact under_loop_is b o q hq FUEL 0 0 (fuel_gt _ (by have := hq.1; omega)) (by omega) InR0
theorem under_r_eq (b : t_api_Basin.den) (o : Int) (q : List Ld) (hq : Qu q) : under_r q b o = some (q.foldl (und b o) 0) := by
  unfold under_r under_r_body
  rw [bind_eta]
  exact under_r_loop_is b o q hq FUEL 0 0 (fuel_gt _ (by have := hq.1; omega)) (by omega) InR0

theorem route_both (pl : t_api_Place.den) (v rem : Int) : ∃ x, route pl v rem = some x ∧ route_r pl v rem = some x := by
  unfold route route_body route_r route_r_body
  rw [scale_r_eq, scale_eq]
  generalize (if 0 ≤ v ∧ v ≤ 1125899906842624 ∧ 0 ≤ pl.snd.snd.snd.snd.snd.snd.fst ∧ pl.snd.snd.snd.snd.snd.snd.fst ≤ 1125899906842624 ∧ 1 ≤ pl.snd.snd.snd.snd.snd.snd.snd.fst ∧ pl.snd.snd.snd.snd.snd.snd.snd.fst ≤ 1125899906842624 ∧ v * pl.snd.snd.snd.snd.snd.snd.fst / pl.snd.snd.snd.snd.snd.snd.snd.fst ≤ 1125899906842624 then (v * pl.snd.snd.snd.snd.snd.snd.fst / pl.snd.snd.snd.snd.snd.snd.snd.fst, v * pl.snd.snd.snd.snd.snd.snd.fst % pl.snd.snd.snd.snd.snd.snd.snd.fst, true) else (0, 0, false)) = r
  obtain ⟨q, r, ok⟩ := r
  simp only [Option.bind_some, sc_or]
  have sw : ∀ (x d : Int) (α : Type) (u w : α), (bif decide (x ≥ d) then u else w) = (bif decide (x < d) then w else u) := fun x d α u w => by
    by_cases h : x < d
    · rw [decide_eq_true h, decide_eq_false (by omega)]; rfl
    · rw [decide_eq_false h, decide_eq_true (by omega)]; rfl
  cases ok
  · exact ⟨_, rfl, rfl⟩
  · simp only [Bool.not_true, cond_false]
    rw [sw, sw]
    have tt : ∀ (c : Bool) (α : Type) (x y : α), ∃ z, (bif c then some x else some y) = some z ∧ (bif c then some x else some y) = some z := fun c α x y => by cases c <;> exact ⟨_, rfl, rfl⟩
    cases (decide (rem < 0) || decide (rem ≥ pl.snd.snd.snd.snd.snd.snd.snd.fst))
    · simp only [cond_false]; exact tt _ _ _ _
    · simp only [cond_true]; exact tt _ _ _ _

theorem tells_loop_is (q : List Ld) (v rem : Int) (part : List Int) (a t o : Int) (head : Bool) (b : t_api_Basin.den) (hb : b.snd.snd.snd.fst.length ≤ 70) (sm : Option Bool) : ∀ (k i : Nat), b.snd.snd.snd.fst.length < i + k → i ≤ b.snd.snd.snd.fst.length →
    tells_loop5 route route_r push push_r rdue rdue_r under under_r sameLists sameLoads few sm k q v rem part a t o head i b = some (.inl (q, part, a, t, o, head, b)) := by
  intro k
  induction k with
  | zero => intro i h hi; omega
  | succ k ih =>
    intro i h hi0
    unfold tells_loop5 tells_loop5_step
    rw [Int.toNat_natCast]
    by_cases hi : i < b.snd.snd.snd.fst.length
    · rw [inb _ _ hi]
      obtain ⟨x, e1, e2⟩ := route_both (List.getD b.snd.snd.snd.fst i (Ty.zero t_api_Place)) v rem
      have hi' : (i : Int) < (b.snd.snd.snd.fst.length : Int) := by omega
      simp only [hi', decide_true, cond_true, wi_id ((i : Int) + 1) (by omega) (by omega), e1, e2, Option.bind_some, bne_self_eq_false, cond_false]
      exact ih (i + 1) (by omega) (by omega)
    · have hi' : ¬ (i : Int) < (b.snd.snd.snd.fst.length : Int) := by omega
      simp only [hi', decide_false, cond_false]

theorem arr_len {q : List Ld} (hq : Qu q) (hour : Int) (P O : Nat) (hO : O ≤ 16) : ∀ x, x ∈ arr q hour P O → Pl x := by
  intro x hx
  simp only [arr, List.mem_map] at hx
  obtain ⟨p, _, rfl⟩ := hx
  suffices h : ∀ (q : List Ld) s, (∀ l, l ∈ q → Pl l.2.2.1) → Pl s → Pl (q.foldl (acc hour P p) s) from h q _ hq.2 (Pl_rep _ hO)
  intro q
  induction q with
  | nil => intro s _ h; exact h
  | cons l q ih => intro s hl hs; exact ih _ (fun m hm => hl m (by simp [hm])) (Pl_acc hs (hl l (by simp)))

theorem tells_true (b : t_api_Basin.den) (q : List Ld) (v rem : Int) (part : List Int) (a t o : Int) (hq : q.length ≤ 9223372036854775807) (hin : ∀ l, l ∈ q → ∀ x, x ∈ l.2.2.1 → InR x) :
    tells b q v rem part a t o = some true := by
  unfold tells tells_body
  obtain ⟨f, hf, hff⟩ := few_eq q hq
  simp only [small_true, hf, Option.bind_some, sc_or]
  by_cases hc : (!f || decide ((part.length : Int) > 6) || decide ((b.snd.snd.snd.fst.length : Int) > 70)) = true
  · rw [hc]; rfl
  · rw [Bool.not_eq_true] at hc
    rw [hc, cond_false]
    simp only [Bool.or_eq_false_iff, decide_eq_false_iff_not, Bool.not_eq_false'] at hc
    have hfew := hff.1 hc.1.1
    have hb : b.snd.snd.snd.fst.length ≤ 70 := by have := hc.2; omega
    have hpl : part.length ≤ 6 := by have := hc.1.2; omega
    have hQ : Qu q := ⟨by have := hfew.2; omega, fun l hl => ⟨by have := hfew.1 l hl; omega, hin l hl⟩⟩
    have g : tells_loop5 route route_r push push_r rdue rdue_r under under_r sameLists sameLoads few (some true) FUEL q v rem part a t o true 0 b = _ := tells_loop_is q v rem part a t o true b hb _ FUEL 0 (fuel_gt _ (by omega)) (by omega)
    rw [g]
    have hs1 : sameLoads (pushed q a t part) (pushed q a t part) = some true := by
      refine sameLoads_refl _ ?_ ?_
      · unfold pushed; split
        · omega
        · rw [List.length_append]; have := hfew.2; simp; omega
      · unfold pushed; split
        · intro x hx; have := hfew.1 x hx; omega
        · intro x hx
          rcases List.mem_append.1 hx with hx | hx
          · have := hfew.1 x hx; omega
          · rw [List.mem_singleton.1 hx]; show part.length ≤ _; omega
    have hl1 : sameLists (arr q a (cl t 64) (cl o 16)) (arr q a (cl t 64) (cl o 16)) = some true := by
      refine sameLists_refl _ (by simp [arr]; have := cl_le t 64; omega) fun x hx => ?_
      have := (arr_len hQ a _ _ (cl_le o 16) x hx).1; omega
    have hs2 : sameLoads (left_ q a (cl t 64)) (left_ q a (cl t 64)) = some true := by
      refine sameLoads_refl _ (Nat.le_trans (List.length_filter_le _ _) hq) fun x hx => ?_
      have := hfew.1 x (List.mem_filter.1 hx).1; omega
    simp only [Option.bind_some, Sum.elim, push_eq q a t part (by omega) (by have := hfew.2; omega), push_r_eq q a t part (by omega) (by have := hfew.2; omega), hs1, under_eq b t q hQ, under_r_eq b t q hQ, rdue_eq q hQ, rdue_r_eq q hQ, hl1, hs2, Bool.not_true, cond_false, cond_true, bne_self_eq_false]
end Go.Lift.S18
