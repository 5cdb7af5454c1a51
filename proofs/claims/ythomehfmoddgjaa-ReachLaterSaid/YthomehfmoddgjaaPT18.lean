import Derived.Test.YthomehfmoddgjaaPR18
set_option linter.all false
/- reach.Due and its reference. -/
set_option linter.unusedSimpArgs false
set_option linter.unusedVariables false
namespace Go.Lift.S18
open Go Go.Lift Go.Lift.Ar

abbrev Ld := t_api_Load.den
def cl (n : Int) (m : Nat) : Nat := (if n < 0 then 0 else if n > (m : Int) then (m : Int) else n).toNat
theorem cl_le (n : Int) (m : Nat) : cl n m ≤ m := by unfold cl; split <;> (try split) <;> omega
theorem clamp_eq (n : Int) (m : Nat) : clamp n 0 (m : Int) = some ((cl n m : Nat) : Int) := by
  unfold clamp clamp_body cl
  by_cases h1 : n < 0
  · simp only [h1, decide_true, cond_true, if_true]; rfl
  · by_cases h2 : n > (m : Int)
    · simp only [h1, h2, decide_true, decide_false, cond_true, cond_false, if_true, if_false]; rfl
    · simp only [h1, h2, decide_false, cond_false, if_false, Option.some.injEq]; omega

/-- A pool of few owners in int's range. -/
def Pl (l : List Int) : Prop := l.length ≤ 16 ∧ ∀ x, x ∈ l → InR x
theorem Pl_zs {a b : List Int} (ha : Pl a) (hb : Pl b) : Pl (zs a b) := ⟨by rw [zs_len]; exact Nat.max_le.2 ⟨ha.1, hb.1⟩, zs_in a b⟩
theorem Pl_nil : Pl [] := ⟨by simp, fun x h => by cases h⟩
theorem Pl_rep (n : Nat) (h : n ≤ 16) : Pl (List.replicate n 0) := ⟨by simpa using h, fun x hx => by rw [(List.mem_replicate.1 hx).2]; exact InR0⟩
theorem padd_pl {a b : List Int} (ha : Pl a) (hb : Pl b) : padd a b = some (zs a b) := padd_eq a b ha.2 hb.2 (by have := ha.1; omega) (by have := hb.1; omega)
theorem padd_r_pl {a b : List Int} (ha : Pl a) (hb : Pl b) : padd_r a b = some (zs a b) := padd_r_eq a b ha.2 hb.2 (by have := ha.1; omega) (by have := hb.1; omega)

def Qu (q : List Ld) : Prop := q.length ≤ 100 ∧ ∀ l, l ∈ q → Pl l.2.2.1
def due3 (hour : Int) (P : Nat) (a b : Int) : Bool := decide (a ≤ hour) && decide (0 ≤ b) && decide (b < (P : Int))
def dueB (hour : Int) (P : Nat) (l : Ld) : Bool := due3 hour P l.1 l.2.1
def acc (hour : Int) (P p : Nat) (s : List Int) (l : Ld) : List Int := if dueB hour P l = true ∧ l.2.1 = (p : Int) then zs s l.2.2.1 else s

theorem Pl_acc {hour : Int} {P p : Nat} {s : List Int} {l : Ld} (hs : Pl s) (hl : Pl l.2.2.1) : Pl (acc hour P p s l) := by
  unfold acc; split
  · exact Pl_zs hs hl
  · exact hs

theorem notdue3 (hour : Int) (P : Nat) (a b : Int) : (decide (a > hour) || decide (b < 0) || decide (b ≥ (P : Int))) = !due3 hour P a b := by
  unfold due3
  rw [Bool.eq_iff_iff]
  simp only [Bool.or_eq_true, Bool.not_eq_true', Bool.and_eq_false_iff, decide_eq_true_eq, decide_eq_false_iff_not]
  omega
theorem notdue (hour : Int) (P : Nat) (l : Ld) : (decide (l.1 > hour) || decide (l.2.1 < 0) || decide (l.2.1 ≥ (P : Int))) = !dueB hour P l := notdue3 hour P l.1 l.2.1

theorem rdue_loop8_is (hour : Int) (q : List Ld) (hq : Qu q) (P : Nat) (hP : P ≤ 64) :
    ∀ (k i : Nat) (arrived : List (List Int)) (rest : List Ld), q.length < i + k → i ≤ q.length → arrived.length = P → (∀ p, Pl (arrived.getD p [])) → rest.length ≤ i →
      ∃ a, rdue_loop8 clamp padd k hour q (q.length : Int) i arrived rest = some (a, rest ++ (q.drop i).filter (fun l => !dueB hour P l)) ∧ a.length = P ∧ ∀ p, p < P → a.getD p [] = (q.drop i).foldl (acc hour P p) (arrived.getD p []) := by
  have hq1 := hq.1
  intro k
  induction k with
  | zero => intro i n r h hi; omega
  | succ k ih =>
    intro i arrived rest h hi0 ha hp hr
    unfold rdue_loop8 rdue_loop8_step
    rw [Int.toNat_natCast]
    by_cases hi : i < q.length
    · have hm := hq.2 _ (getD_mem q i (Ty.zero t_api_Load) hi)
      rw [drop_cons q i (Ty.zero t_api_Load) hi, inb _ _ hi]
      generalize List.getD q i (Ty.zero t_api_Load) = l at *
      have hi' : (i : Int) < (q.length : Int) := by omega
      rw [ha]
      simp only [hi', decide_true, cond_true, sc_or, Option.bind_some, wi_id ((i : Int) + 1) (by omega) (by omega)]
      rw [notdue]
      cases hd : dueB hour P l
      · simp only [Bool.not_false, cond_true, List.filter_cons, hd, if_true, List.foldl_cons]
        rw [app1, roomD (by rw [List.length_append]; simp; omega), cond_true]
        obtain ⟨a, h1, h2, h3⟩ := ih (i + 1) arrived (rest ++ [l]) (by omega) (by omega) ha hp (by rw [List.length_append]; simp; omega)
        refine ⟨a, ?_, h2, fun p hpp => ?_⟩
        · rw [List.append_assoc] at h1; exact h1
        · rw [h3 p hpp]
          have : acc hour P p (arrived.getD p []) l = arrived.getD p [] := by unfold acc; rw [if_neg (fun hh => by rw [hd] at hh; exact absurd hh.1 (by simp))]
          rw [this]
      · have hd' := hd
        unfold dueB due3 at hd'
        simp only [Bool.and_eq_true, decide_eq_true_eq] at hd'
        obtain ⟨⟨_, hd1⟩, hd2⟩ := hd'
        obtain ⟨t, ht⟩ := Int.eq_ofNat_of_zero_le hd1
        simp only [Bool.not_true, cond_false, List.filter_cons, hd, Bool.false_eq_true, if_false, List.foldl_cons]
        rw [ht]
        rw [inb t P (by omega), cond_true, Int.toNat_natCast, Nat.zero_add]
        have e : padd (List.getD arrived t (nilOf Int)) l.snd.snd.fst = some (zs (arrived.getD t []) l.2.2.1) := padd_pl (hp t) hm
        rw [e]
        simp only [Option.bind_some, cond_true]
        obtain ⟨a, h1, h2, h3⟩ := ih (i + 1) (arrived.set t (zs (arrived.getD t []) l.2.2.1)) rest (by omega) (by omega) (by rw [List.length_set]; exact ha) (fun p => by
          rw [getD_set]; split
          · exact Pl_zs (hp t) hm
          · exact hp p) (by omega)
        refine ⟨a, h1, h2, fun p hpp => ?_⟩
        rw [h3 p hpp, getD_set]
        congr 1
        unfold acc
        by_cases htp : t = p
        · subst htp; rw [if_pos ⟨rfl, by omega⟩, if_pos ⟨hd, ht⟩]
        · rw [if_neg (fun hh => htp hh.1), if_neg (fun hh => htp (Int.ofNat.inj (ht.symm.trans hh.2)))]
    · have hi' : ¬ (i : Int) < (q.length : Int) := by omega
      rw [(List.drop_eq_nil_of_le (by omega) : q.drop i = [])]
      simp only [hi', decide_false, cond_false, List.filter_nil, List.append_nil, List.foldl_nil]
      exact ⟨arrived, rfl, ha, fun p _ => rfl⟩

theorem rdue_loop3_is (hour owners : Int) (q : List Ld) (P : Nat) (hP : P ≤ 64) :
    ∀ (k i : Nat) (arrived : List (List Int)), P < i + k → i ≤ P → arrived.length = P →
      ∃ a, rdue_loop3 clamp padd k q hour owners (P : Int) i arrived = some (q, hour, a) ∧ a.length = P ∧ ∀ p, a.getD p [] = if i ≤ p ∧ p < P then List.replicate (cl owners 16) 0 else arrived.getD p [] := by
  intro k
  induction k with
  | zero => intro i n h hi; omega
  | succ k ih =>
    intro i arrived h hi0 ha
    unfold rdue_loop3 rdue_loop3_step
    rw [Int.toNat_natCast, Nat.zero_add]
    by_cases hi : i < P
    · have hi' : (i : Int) < (P : Int) := by omega
      have hc : clamp owners 0 16 = some ((cl owners 16 : Nat) : Int) := clamp_eq owners 16
      have hcl := cl_le owners 16
      simp only [hi', decide_true, cond_true, hc, Option.bind_some]
      rw [room4 (by omega) (by omega), ha, inb _ _ hi, cond_true, cond_true, wi_id ((i : Int) + 1) (by omega) (by omega), Int.toNat_natCast]
      obtain ⟨a, h1, h2, h3⟩ := ih (i + 1) (arrived.set i (List.replicate (cl owners 16) 0)) (by omega) (by omega) (by rw [List.length_set]; exact ha)
      refine ⟨a, h1, h2, fun p => ?_⟩
      rw [h3, getD_set]
      by_cases hp : i = p
      · subst hp; rw [if_neg (by omega), if_pos ⟨rfl, by omega⟩, if_pos ⟨by omega, hi⟩]
      · by_cases hp2 : i + 1 ≤ p ∧ p < P
        · rw [if_pos hp2, if_pos (by omega)]
        · rw [if_neg hp2, if_neg (fun hh => hp hh.1), if_neg (by omega)]
    · have hi' : ¬ (i : Int) < (P : Int) := by omega
      simp only [hi', decide_false, cond_false]
      exact ⟨arrived, rfl, ha, fun p => by rw [if_neg (by omega)]⟩

/-- What arrives at the places. -/
def arr (q : List Ld) (hour : Int) (P O : Nat) : List (List Int) := (List.range P).map fun p => q.foldl (acc hour P p) (List.replicate O 0)
def left_ (q : List Ld) (hour : Int) (P : Nat) : List Ld := q.filter fun l => !dueB hour P l

theorem rdue_eq (q : List Ld) (hq : Qu q) (hour places owners : Int) :
    rdue q hour places owners = some (arr q hour (cl places 64) (cl owners 16), left_ q hour (cl places 64)) := by
  unfold rdue rdue_body
  have hc : clamp places 0 64 = some ((cl places 64 : Nat) : Int) := clamp_eq places 64
  have hcl := cl_le places 64
  have hco := cl_le owners 16
  generalize cl places 64 = P at *
  rw [hc]
  simp only [Option.bind_some]
  rw [room4 (by omega) (by omega), cond_true, Int.toNat_natCast]
  have hlen : (List.replicate P (nilOf Int)).length = P := by simp
  rw [hlen]
  obtain ⟨a, h1, h2, h3⟩ := rdue_loop3_is hour owners q P hcl FUEL 0 (List.replicate P []) (fuel_gt _ (by omega)) (by omega) (by simp)
  have h1' : rdue_loop3 clamp padd FUEL q hour owners (P : Int) 0 (List.replicate P (nilOf Int)) = some (q, hour, a) := h1
  rw [h1']
  simp only [Option.bind_some]
  obtain ⟨b, g1, g2, g3⟩ := rdue_loop8_is hour q hq P hcl FUEL 0 a [] (fuel_gt _ (by have := hq.1; omega)) (by omega) h2 (fun p => by
    rw [h3]; split
    · exact Pl_rep _ hco
    · by_cases hp : p < P
      · rw [getD_replicate _ _ _ _ hp]; exact Pl_nil
      · rw [getD_far2 _ _ _ (by simp; omega)]; exact Pl_nil) (by simp)
  have g1' : rdue_loop8 clamp padd FUEL hour q (q.length : Int) 0 a (nilOf t_api_Load.den) = _ := g1
  rw [g1']
  simp only [Option.bind_some, List.drop_zero, List.nil_append, Option.some.injEq, Prod.mk.injEq]
  refine ⟨ext_getD2 [] (by rw [g2]; simp [arr]) fun p hp => ?_, rfl⟩
  rw [g2] at hp
  rw [g3 p hp, h3, if_pos ⟨by omega, hp⟩]
  unfold arr
  rw [getD_map_range _ _ _ _ hp]
  rfl

theorem due_cl (a b hour places : Int) : (decide (a ≤ hour) && decide (b ≥ 0) && decide (b < if (64 : Int) < places then 64 else places)) = due3 hour (cl places 64) a b := by
  unfold due3 cl
  rw [Bool.eq_iff_iff]
  simp only [Bool.and_eq_true, decide_eq_true_eq]
  (repeat' split) <;> omega
theorem rdue_r0_eq (l : Ld) (hour places : Int) : rdue_r0 l hour places = some (dueB hour (cl places 64) l) := by
  unfold rdue_r0 rdue_r0_body dueB
  simp only [sc_and, Option.bind_some]
  rw [due_cl]

theorem rdue_r_loop8_is (hour places owners : Int) (q : List Ld) (hq : Qu q) (p : Nat) (arrived : List (List Int)) :
    ∀ (k i : Nat) (sum : List Int), q.length < i + k → i ≤ q.length → Pl sum →
      rdue_r_loop8v1 padd_r rdue_r0 k q hour places owners (p : Int) sum i arrived = some (q, hour, places, owners, (p : Int), (q.drop i).foldl (acc hour (cl places 64) p) sum, arrived) := by
  have hq1 := hq.1
  intro k
  induction k with
  | zero => intro i s h hi; omega
  | succ k ih =>
    intro i sum h hi0 hs
    unfold rdue_r_loop8v1 rdue_r_loop8v1_step
    rw [Int.toNat_natCast]
    by_cases hi : i < q.length
    · have hm := hq.2 _ (getD_mem q i (Ty.zero t_api_Load) hi)
      rw [drop_cons q i (Ty.zero t_api_Load) hi, inb _ _ hi]
      generalize List.getD q i (Ty.zero t_api_Load) = l at *
      have hi' : (i : Int) < (q.length : Int) := by omega
      simp only [hi', decide_true, cond_true, bind_eta, rdue_r0_eq, sc_and, Option.bind_some, List.foldl_cons, wi_id ((i : Int) + 1) (by omega) (by omega)]
      have hpl : Pl l.2.2.1 := hm
      have nx := fun s hs => ih (i + 1) s (by omega) (by omega) hs
      by_cases hc : l.2.1 = (p : Int) ∧ dueB hour (cl places 64) l = true
      · have : (l.2.1 == (p : Int) && dueB hour (cl places 64) l) = true := by simp [hc.1, hc.2]
        rw [this, cond_true, padd_r_pl hs hpl]
        have e : acc hour (cl places 64) p sum l = zs sum l.2.2.1 := by unfold acc; rw [if_pos ⟨hc.2, hc.1⟩]
        rw [e]
        exact nx _ (Pl_zs hs hpl)
      · have : (l.2.1 == (p : Int) && dueB hour (cl places 64) l) = false := by
          cases hh : (l.2.1 == (p : Int) && dueB hour (cl places 64) l)
          · rfl
          · simp only [Bool.and_eq_true, beq_iff_eq] at hh; exact absurd hh hc
        rw [this, cond_false]
        have e : acc hour (cl places 64) p sum l = sum := by unfold acc; rw [if_neg (fun hh => hc ⟨hh.2, hh.1⟩)]
        rw [e]
        exact nx _ hs
    · have hi' : ¬ (i : Int) < (q.length : Int) := by omega
      rw [(List.drop_eq_nil_of_le (by omega) : q.drop i = [])]
      simp only [hi', decide_false, cond_false, List.foldl_nil]

theorem rdue_r_loop4_is (hour places owners : Int) (q : List Ld) (hq : Qu q) :
    ∀ (k p : Nat) (arrived : List (List Int)), cl places 64 < p + k → p ≤ cl places 64 → arrived.length = p →
      rdue_r_loop4 padd_r rdue_r0 k q hour places owners (p : Int) arrived = some (q, hour, places, arrived ++ (arr q hour (cl places 64) (cl owners 16)).drop p) := by
  have hq1 := hq.1
  have hcl := cl_le places 64
  intro k
  induction k with
  | zero => intro i s h hi; omega
  | succ k ih =>
    intro p arrived h hp0 ha
    unfold rdue_r_loop4 rdue_r_loop4_step
    have hO : (if (16 : Int) < (if (0 : Int) > owners then 0 else owners) then (16 : Int) else if (0 : Int) > owners then 0 else owners) = ((cl owners 16 : Nat) : Int) := by
      unfold cl; by_cases h1 : owners < 0 <;> by_cases h2 : owners > 16 <;> simp [h1, h2] <;> omega
    have hco := cl_le owners 16
    have harr : (arr q hour (cl places 64) (cl owners 16)).length = cl places 64 := by simp [arr]
    rw [hO]
    by_cases hp : p < cl places 64
    · have hc : (decide ((p : Int) < places) && decide ((p : Int) < 64)) = true := by
        unfold cl at hp; simp only [Bool.and_eq_true, decide_eq_true_eq]
        constructor <;> (revert hp; split <;> (try split) <;> omega)
      rw [sc_and, hc]
      simp only [Option.bind_some, cond_true]
      rw [room4 (by omega) (by omega), cond_true, Int.toNat_natCast]
      have g := rdue_r_loop8_is hour places owners q hq p arrived FUEL 0 (List.replicate (cl owners 16) 0) (fuel_gt _ (by omega)) (by omega) (Pl_rep _ hco)
      rw [List.drop_zero] at g
      have g' : rdue_r_loop8v1 padd_r rdue_r0 FUEL q hour places owners (p : Int) (List.replicate (cl owners 16) 0) 0 arrived = _ := g
      rw [g']
      simp only [Option.bind_some]
      rw [app1, roomD (by rw [List.length_append]; simp; omega), cond_true, wi_id ((p : Int) + 1) (by omega) (by omega), drop_cons _ p [] (by rw [harr]; exact hp)]
      have := ih (p + 1) (arrived ++ [q.foldl (acc hour (cl places 64) p) (List.replicate (cl owners 16) 0)]) (by omega) (by omega) (by rw [List.length_append]; simp; omega)
      rw [List.append_assoc] at this
      unfold arr at this ⊢
      rw [getD_map_range _ _ _ _ hp]
      exact this
    · have hc : (decide ((p : Int) < places) && decide ((p : Int) < 64)) = false := by
        cases hh : (decide ((p : Int) < places) && decide ((p : Int) < 64))
        · rfl
        · exfalso; apply hp; simp only [Bool.and_eq_true, decide_eq_true_eq] at hh; unfold cl; split <;> (try split) <;> omega
      rw [sc_and, hc]
      simp only [Option.bind_some, cond_false]
      rw [List.drop_eq_nil_of_le (by rw [harr]; omega), List.append_nil]

theorem rdue_r_loop14_is (hour places : Int) (q : List Ld) (hq : Qu q) (arrived : List (List Int)) :
    ∀ (k i : Nat) (rest : List Ld), q.length < i + k → i ≤ q.length → rest.length ≤ i →
      rdue_r_loop14 padd_r rdue_r0 k q hour places i arrived rest = some (arrived, rest ++ (q.drop i).filter (fun l => !dueB hour (cl places 64) l)) := by
  have hq1 := hq.1
  intro k
  induction k with
  | zero => intro i r h hi; omega
  | succ k ih =>
    intro i rest h hi0 hr
    unfold rdue_r_loop14 rdue_r_loop14_step
    rw [Int.toNat_natCast]
    by_cases hi : i < q.length
    · rw [drop_cons q i (Ty.zero t_api_Load) hi, inb _ _ hi]
      generalize List.getD q i (Ty.zero t_api_Load) = l at *
      have hi' : (i : Int) < (q.length : Int) := by omega
      simp only [hi', decide_true, cond_true, rdue_r0_eq, Option.bind_some, wi_id ((i : Int) + 1) (by omega) (by omega)]
      cases hd : dueB hour (cl places 64) l
      · simp only [Bool.not_false, cond_true, List.filter_cons, hd, if_true]
        rw [app1, roomD (by rw [List.length_append]; simp; omega), cond_true]
        have h1 := ih (i + 1) (rest ++ [l]) (by omega) (by omega) (by rw [List.length_append]; simp; omega)
        rw [List.append_assoc] at h1; exact h1
      · simp only [Bool.not_true, cond_false, List.filter_cons, hd, Bool.false_eq_true, if_false]
        exact ih (i + 1) rest (by omega) (by omega) (by omega)
    · have hi' : ¬ (i : Int) < (q.length : Int) := by omega
      rw [(List.drop_eq_nil_of_le (by omega) : q.drop i = [])]
      simp only [hi', decide_false, cond_false, List.filter_nil, List.append_nil]

theorem rdue_r_eq (q : List Ld) (hq : Qu q) (hour places owners : Int) :
    rdue_r q hour places owners = some (arr q hour (cl places 64) (cl owners 16), left_ q hour (cl places 64)) := by
  unfold rdue_r rdue_r_body
  have hcl := cl_le places 64
  have g : rdue_r_loop4 padd_r rdue_r0 FUEL q hour places owners 0 (nilOf (List Int)) = _ := rdue_r_loop4_is hour places owners q hq FUEL 0 [] (fuel_gt _ (by omega)) (by omega) rfl
  rw [g]
  simp only [Option.bind_some, List.drop_zero, List.nil_append]
  have g : rdue_r_loop14 padd_r rdue_r0 FUEL q hour places 0 (arr q hour (cl places 64) (cl owners 16)) (nilOf t_api_Load.den) = _ := rdue_r_loop14_is hour places q hq _ FUEL 0 [] (fuel_gt _ (by have := hq.1; omega)) (by omega) (by simp)
  rw [g]
  rfl
end Go.Lift.S18
