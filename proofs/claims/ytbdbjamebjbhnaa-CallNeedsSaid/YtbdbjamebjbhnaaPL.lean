import Derived.Test.YtbdbjamebjbhnaaPA
set_option linter.all false
/- Lists and sums, no program in sight. -/
set_option linter.unusedSimpArgs false
set_option linter.unusedVariables false
namespace Go.Lift.Ar
open Go

theorem sc_or (p q : Bool) : (bif p then some true else some q) = some (p || q) := by cases p <;> rfl
theorem sc_and (p q : Bool) : (bif p then some q else some false) = some (p && q) := by cases p <;> rfl
theorem bind_eta {α : Type} (x : Option α) : (Option.bind x fun r => some r) = x := by cases x <;> rfl
theorem bind_sum {α : Type} (x : Option (α ⊕ Bool)) (b : Bool) : (Option.bind x fun r => Sum.elim (fun _ => some b) (fun r => some r) r) = Option.bind x fun r => some (Sum.elim (fun _ => b) id r) := by
  cases x with
  | none => rfl
  | some v => cases v <;> rfl

theorem wi_mod (n : Int) : wi n = (n + 9223372036854775808) % 18446744073709551616 - 9223372036854775808 := by
  simp [wu, wi, w8, IntKind.wrap, IntKind.signed, IntKind.bits]
  split <;> omega

def InR (n : Int) : Prop := -9223372036854775808 ≤ n ∧ n ≤ 9223372036854775807
theorem InR_of {x : Int} (h : (Lit.int .i64 x).wf = true) : InR x := by
  simp [Lit.wf, IntKind.min, IntKind.max, IntKind.signed, IntKind.bits] at h
  unfold InR
  omega
theorem wi_of {x : Int} (h : InR x) : wi x = x := wi_id x (by unfold InR at h; omega) (by unfold InR at h; omega)

def sat (n : Int) : Int := if n < -9223372036854775808 then -9223372036854775808 else if 9223372036854775807 < n then 9223372036854775807 else n
theorem sat_in (n : Int) : InR (sat n) := by unfold sat InR; split <;> (try split) <;> omega
theorem sat_of {n : Int} (h : InR n) : sat n = n := by unfold InR at h; unfold sat; rw [if_neg (by omega), if_neg (by omega)]

def isum : List Int → Int
  | [] => 0
  | x :: l => x + isum l

theorem isum_append (a b : List Int) : isum (a ++ b) = isum a + isum b := by
  induction a with
  | nil => simp [isum]
  | cons x l ih => simp only [List.cons_append, isum, ih]; omega

theorem isum_nonneg {l : List Int} (h : ∀ x, x ∈ l → 0 ≤ x) : 0 ≤ isum l := by
  induction l with
  | nil => simp [isum]
  | cons x l ih =>
    have := h x (by simp)
    have := ih (fun y hy => h y (by simp [hy]))
    simp only [isum]; omega

theorem isum_bound {l : List Int} (h : ∀ x, x ∈ l → InR x) : -(l.length * 9223372036854775808 : Int) ≤ isum l ∧ isum l ≤ (l.length * 9223372036854775808 : Int) := by
  induction l with
  | nil => simp [isum]
  | cons x l ih =>
    have := h x (by simp)
    have := ih (fun y hy => h y (by simp [hy]))
    unfold InR at *
    simp only [isum, List.length_cons]
    omega

theorem drop_cons {α : Type} (l : List α) (i : Nat) (d : α) (h : i < l.length) : l.drop i = l.getD i d :: l.drop (i + 1) := by
  rw [List.drop_eq_getElem_cons h, List.getD_eq_getElem?_getD, List.getElem?_eq_getElem h]; rfl

theorem getD_mem {α : Type} (l : List α) (i : Nat) (d : α) (h : i < l.length) : l.getD i d ∈ l := by
  rw [List.getD_eq_getElem?_getD, List.getElem?_eq_getElem h]; exact List.getElem_mem h

theorem inb (i : Nat) (n : Nat) (h : i < n) : (decide ((0 : Int) ≤ (i : Int)) && decide ((i : Int) < (n : Int))) = true := by simp; omega

theorem room (n : Nat) (h : n ≤ 64) : (decide ((0 : Int) ≤ (n : Int)) && decide ((n : Int) ≤ (n : Int)) && decide ((n : Int) * 8 ≤ 140737488355328) && decide ((n : Int) ≤ 9223372036854775807)) = true := by
  simp; omega

theorem roomD {n w : Nat} (h : n * w ≤ 140737488355328) : decide ((n : Int) * (w : Int) ≤ 140737488355328) = true := by
  rw [← Int.natCast_mul]; simp; omega

theorem room4 {n w : Nat} (h : n * w ≤ 140737488355328) (h2 : n ≤ 9223372036854775807) : (decide ((0 : Int) ≤ (n : Int)) && decide ((n : Int) ≤ (n : Int)) && decide ((n : Int) * (w : Int) ≤ 140737488355328) && decide ((n : Int) ≤ 9223372036854775807)) = true := by
  rw [roomD h]; simp; omega

theorem app1 {α : Type} (out : List α) (x : α) : out ++ List.take (List.length (x :: nilOf α)) (List.drop (0 : Nat) (x :: nilOf α)) = out ++ [x] := rfl

theorem ext_getD {a b : List Int} (hl : a.length = b.length) (h : ∀ i, i < a.length → a.getD i 0 = b.getD i 0) : a = b := by
  apply List.ext_getElem hl
  intro i h1 h2
  have := h i h1
  simpa [List.getD_eq_getElem?_getD, List.getElem?_eq_getElem h1, List.getElem?_eq_getElem h2] using this

theorem ext_getD2 {α : Type} {a b : List α} (d : α) (hl : a.length = b.length) (h : ∀ i, i < a.length → a.getD i d = b.getD i d) : a = b := by
  apply List.ext_getElem hl
  intro i h1 h2
  have := h i h1
  simpa [List.getD_eq_getElem?_getD, List.getElem?_eq_getElem h1, List.getElem?_eq_getElem h2] using this

theorem getD_far2 {α : Type} (l : List α) (j : Nat) (d : α) (h : l.length ≤ j) : l.getD j d = d := by
  rw [List.getD_eq_getElem?_getD, List.getElem?_eq_none (by omega)]; rfl

theorem getD_replicate {α : Type} (n j : Nat) (v d : α) (h : j < n) : (List.replicate n v).getD j d = v := by
  rw [List.getD_eq_getElem?_getD, List.getElem?_replicate, if_pos h]; rfl

theorem getD_map_range {α : Type} (f : Nat → α) (n i : Nat) (d : α) (h : i < n) : ((List.range n).map f).getD i d = f i := by
  simp [List.getD_eq_getElem?_getD, h]

theorem getD_set {α : Type} (l : List α) (i j : Nat) (v d : α) : (l.set i v).getD j d = if i = j ∧ j < l.length then v else l.getD j d := by
  simp only [List.getD_eq_getElem?_getD, List.getElem?_set]
  by_cases h : i = j
  · subst h
    by_cases h2 : i < l.length
    · simp [h2]
    · simp [h2, List.getElem?_eq_none (Nat.le_of_not_lt h2)]
  · simp [h]
end Go.Lift.Ar
