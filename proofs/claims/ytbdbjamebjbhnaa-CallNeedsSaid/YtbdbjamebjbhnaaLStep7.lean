import Derived.Test.YtbdbjamebjbhnaaLStep6
import Derived.Maps.AppendAt
import Derived.Laws.CopyRow
set_option linter.all false
/- STEPS: append, copy, clear. -/
namespace Go.Lift

/-- A row of elements, read. -/
def Row (M : Mem) (e : Ty) (v : Value) (m : List e.den) : Prop :=
  ∃ ad cap css, v = .slice ad m.length cap ∧ m.length ≤ cap ∧ repAll (rep M e) css m ∧ (m = [] ∨ ∃ b off, ad = some ⟨b, off, none⟩ ∧ b < M.w.heap.size ∧ cellsAt M.w b off css.flatten)

theorem flatten_take {n : Nat} : ∀ (q : Nat) (css : List (List Value)), (∀ c ∈ css, c.length = n) → (css.take q).flatten = css.flatten.take (q * n)
  | 0, css, _ => by simp
  | q + 1, [], _ => by simp
  | q + 1, c :: css, h => by
    have e1 : (q + 1) * n = c.length + q * n := by rw [h c (by simp), Nat.add_mul, Nat.one_mul, Nat.add_comm]
    simp only [List.take_succ_cons, List.flatten_cons]
    rw [flatten_take q css (fun d hd => h d (by simp [hd])), e1, List.take_append, List.take_of_length_le (l := c) (by omega), Nat.add_sub_cancel_left]

theorem flatten_drop {n : Nat} : ∀ (q : Nat) (css : List (List Value)), (∀ c ∈ css, c.length = n) → (css.drop q).flatten = css.flatten.drop (q * n)
  | 0, css, _ => by simp
  | q + 1, [], _ => by simp
  | q + 1, c :: css, h => by
    have e1 : (q + 1) * n = c.length + q * n := by rw [h c (by simp), Nat.add_mul, Nat.one_mul, Nat.add_comm]
    simp only [List.drop_succ_cons, List.flatten_cons]
    rw [flatten_drop q css (fun d hd => h d (by simp [hd])), e1, List.drop_append, show List.drop (c.length + q * n) c = [] from List.drop_eq_nil_of_le (by omega), Nat.add_sub_cancel_left, List.nil_append]

section
variable {P : Program} {C : Ctx} {N : Nat} {w0 : Entry} {M : Mem} {s : St} {a : Act} {quiet : Bool} {o : Oper} {R' : Type} {k : St → Option R'} {r : R'}
  {K : Act → World → Prop} {Q : Exit → Act → World → Prop} {w : World}

theorem cells_nonneg (j len : Nat) (e : Ty) {css : List (List Value)} (h : ∀ c ∈ css, c.length = e.size) : ((css.drop j).take len).flatten = (css.flatten.drop (j * e.size)).take (len * e.size) := by
  rw [flatten_take _ _ (fun c hc => h c (List.mem_of_mem_drop hc)), flatten_drop _ _ h]

/-- The part of a row, read. -/
theorem part_row {e : Ty} {l : List e.den} {css : List (List Value)} {ad ad' : Option Addr} {n cap j len : Nat} {v : Value} (hr : repAll (rep M e) css l) (hn : l.length = n) (hv : v = .slice ad' len (cap - j)) (h1 : j + len ≤ n) (h2 : n ≤ cap)
    (h3 : j < cap → ad' = ad.map (·.add (j * e.size))) (h4 : l = [] ∨ ∃ g, ad = some ⟨g, 0, none⟩ ∧ g < M.w.heap.size ∧ cellsAt M.w g 0 css.flatten) : Row M e v ((l.drop j).take len) := by
  have hl : ((l.drop j).take len).length = len := by simp; omega
  refine ⟨ad', cap - j, (css.drop j).take len, by rw [hl]; exact hv, by omega, repAll_take _ (repAll_drop _ hr), ?_⟩
  by_cases h0 : len = 0
  · left; rw [h0]; simp
  · right
    rcases h4 with h4 | ⟨g, k1, k2, k3⟩
    · subst h4; simp at hn; omega
    · refine ⟨g, 0 + j * e.size, ?_, k2, ?_⟩
      · rw [h3 (by omega), k1]; simp [add_plain]
      · rw [cells_nonneg _ _ _ (repAll_len hr)]
        exact cellsAt_sub k3 _ _

/-- The elements of an operand. -/
theorem elems_ok (hI : Inv N w0 M s a) {y : Operand} {e : Ty} {m : List e.den} (h : elems s.σ e (ev s y) = some m) : Row M e (a.eval y) m := by
  have hR := R_ev hI y
  unfold elems at h
  split at h
  · rename_i hx
    cases h
    exact ⟨none, 0, [], nilS_val hI hx, Nat.le_refl _, trivial, .inl rfl⟩
  · rename_i q e' l hx
    have := as_eq h
    cases this
    rw [hx] at hR
    simp only [R, rep] at hR
    obtain ⟨cs, h0, he, ad, cap, rfl, h1, h2, _, _, _, hc⟩ := hR
    by_cases hl : m = []
    · exact ⟨ad, cap, [], h0, h1, by subst hl; trivial, .inl hl⟩
    · obtain ⟨b, off, css, k1, k2, _, k3, k4⟩ := hc hl
      exact ⟨ad, cap, css, h0, h1, k4, .inr ⟨b, off, k1, k2, k3⟩⟩
  · split at h
    · rename_i i e0 j len hel
      obtain ⟨_, ad, n, cap, ad', h1, h2, h3, h4, h5, h6, h7⟩ := elemOf_ok hI.holds.objs hel hR
      have hO := (hI.holds.objs i).2
      split at h
      · rename_i T e' l hl
        have := as_eq h
        rw [hl] at hO
        obtain ⟨_, ad0, cap0, m1, m2, _, m4⟩ := hO
        rw [h1] at m1
        simp only [Value.slice.injEq] at m1
        obtain ⟨rfl, rfl, rfl⟩ := m1
        have he : e0 = e' := by
          rcases h7 with ⟨T1, l1, q1, _⟩ | ⟨l1, q1, _⟩ <;> rw [hl] at q1 <;> cases q1
          rfl
        subst he
        cases this
        rcases m4 with ⟨rfl, rfl⟩ | ⟨g, cur, css, k1, k2, k3, k4, k5, k6⟩
        · have hl0 : l = [] := List.eq_nil_of_length_eq_zero (by omega)
          subst hl0
          exact part_row (css := []) (ad := none) (n := 0) trivial rfl h2 h3 h4 h5 (.inl rfl)
        · exact part_row k6 rfl h2 h3 h4 h5 (.inr ⟨g, k1, heap_lt k3, cellsAt_of_block k3 k5⟩)
      · rename_i e' l hl
        have := as_eq h
        rw [hl] at hO
        obtain ⟨_, ad0, cap0, m1, m2, _, m4, m5⟩ := hO
        rw [h1] at m1
        simp only [Value.slice.injEq] at m1
        obtain ⟨rfl, rfl, rfl⟩ := m1
        have he : e0 = e' := by
          rcases h7 with ⟨T1, l1, q1, _⟩ | ⟨l1, q1, _⟩ <;> rw [hl] at q1 <;> cases q1
          rfl
        subst he
        cases this
        cases ad with
        | none =>
          have hc := m4 rfl
          have hl0 : l = [] := List.eq_nil_of_length_eq_zero (by omega)
          subst hl0
          exact part_row (css := []) (ad := none) (n := 0) trivial rfl h2 h3 h4 h5 (.inl rfl)
        | some ad =>
          obtain ⟨g, css, rfl, k2, _, k3, k4⟩ := m5 ad rfl
          exact part_row k4 rfl h2 h3 h4 h5 (.inr ⟨g, rfl, k2, k3⟩)
      · cases h
    · cases h

theorem run_append_zero {t ty E : TypeId} {i : TypeInfo} (ht : P.underlying t = some (.slice E)) (hi : P.info? E = some i) (b ad : Option Addr) (n cap c : Nat) (h : n ≤ cap) :
    (Builtin.append_ #[t, t] ty #[.slice b n cap, .slice ad 0 c]).run P w = .ok (.slice b n cap) w := by
  have hl : ∀ (x : Addr), (loadCells x 0).run P w = .ok #[] w := fun x => by simpa using run_loadCells_list (P := P) w x [] (by simp)
  cases b <;> cases ad <;> simp [Builtin.append_, run_underlying ht, sizeOf, typeInfo, hi, Builtin.lenOf, Builtin.firstCells, h, hl, storeCells]

theorem cellsAt_add {b off : Nat} {cs : List Value} (h : cellsAt w b off cs) : ∀ j v, cs[j]? = some v → w.cell? ((⟨b, off, none⟩ : Addr).add j) = some v := fun j v hj => by
  rw [add_plain]; exact h j v hj

theorem room_nat {n : Nat} {b : Nat} (h : (n : Int) * b ≤ roomBytes') : n * b ≤ 140737488355328 := by
  have : ((n * b : Nat) : Int) ≤ 140737488355328 := by simpa [roomBytes'] using h
  omega

theorem room_max {n : Nat} {b : Nat} (hb : 0 < b) (h : n * b ≤ 140737488355328) : n ≤ maxLen := by
  have : n * 1 ≤ n * b := Nat.mul_le_mul_left _ hb
  simp only [maxLen]
  omega

theorem row_oneCell {e : Ty} : ∀ {css : List (List Value)} {m : List e.den}, repAll (rep M e) css m → ∀ u ∈ css.flatten, u.oneCell' = true
  | [], [], _, u, hu => by simp at hu
  | [], _ :: _, h, _, _ => h.elim
  | _ :: _, [], h, _, _ => h.elim
  | c :: css, x :: m, h, u, hu => by
    simp only [List.flatten_cons, List.mem_append] at hu
    rcases hu with hu | hu
    · exact rep_oneCell h.1 u hu
    · exact row_oneCell h.2 u hu

open Classical in
/-- A row has grown; its value is v' now, and it has a new name. -/
noncomputable def Mem.grow (M : Mem) (v' : Value) (w' : World) : Mem where
  φ := fun i => if i = M.nx then v' else M.φ i
  nx := M.nx + 1
  own := fun b => if v'.ownBlock = some b then .atl M.nx else M.own b
  w := w'

theorem grow_turn {v v' : Value} {w' : World} {X : Nat → Prop} (hv : ∀ g, v.ownBlock = some g → ∃ i, M.own g = .atl i ∧ X i) (hg : M.w.grownBy w' v.ownBlock) (hat : v'.ownBlock = v.ownBlock ∨ v'.ownBlock = some M.w.heap.size) :
    Turn M (M.grow v' w') X := by
  have key : ∀ b, b < M.w.heap.size → some b ≠ v.ownBlock → (M.grow v' w').own b = M.own b ∧ w'.heap[b]? = M.w.heap[b]? := fun b hb hne => by
    refine ⟨?_, hg.block b hb hne⟩
    simp only [Mem.grow]
    rw [if_neg]
    rcases hat with e | e <;> rw [e]
    · exact fun e => hne e.symm
    · intro e2; cases e2; exact absurd hb (Nat.lt_irrefl _)
  have out : ∀ b, (∀ i, M.own b = .atl i → ¬ X i) → some b ≠ v.ownBlock := fun b h e => by
    obtain ⟨i, h1, h2⟩ := hv b e.symm
    exact h i h1 h2
  refine ⟨⟨Nat.le_succ _, fun i hi => by simp [Mem.grow, Nat.ne_of_lt hi], fun b hb h => ?_⟩, ⟨hg.os, hg.tape, hg.output, hg.size, fun b hb h => ?_⟩, fun b hb id h hx => ?_⟩
  · obtain ⟨h1, h2⟩ := key b hb (out b fun i e => by rw [h] at e; cases e)
    exact ⟨h1.trans h, h2⟩
  · obtain ⟨h1, h2⟩ := key b hb (out b fun i e => by rcases h with h | h <;> rw [h] at e <;> cases e)
    exact ⟨h2, h1⟩
  · obtain ⟨h1, h2⟩ := key b hb (out b fun i e => by rw [h] at e; cases e; exact hx)
    exact ⟨h1.trans h, h2⟩

theorem row_or {E : TypeId} {e : Ty} {L : List e.den} {css : List (List Value)} {v' : Value} {w' : World} (he : e.pure = true) (hle : M.le (M.grow v' w')) (hrow : w'.ownsRow 0 E e.size v' L.length css.flatten) (hr : repAll (rep M e) css L) :
    v'.oneCell' = true ∧ OR (M.grow v' w') M.nx (.vec E e L) := by
  have hφ : (M.grow v' w').φ M.nx = v' := by simp [Mem.grow]
  have hr' := repAll_mono (fun _ _ h => rep_mono hle h) hr
  rcases hrow.2 with ⟨h1, hn⟩ | ⟨g, cap, cur, h1, _, h2, h3, h4, h5, h6⟩
  · refine ⟨by rw [h1]; rfl, he, none, 0, by rw [hφ, h1, hn], Nat.le_of_eq hn, Nat.zero_le _, .inl ⟨rfl, rfl⟩⟩
  · exact ⟨by rw [h1]; rfl, he, some ⟨g, 0, none⟩, cap, by rw [hφ, h1], h3, h4, .inr ⟨g, cur, css, rfl, by simp [Mem.grow, h1, Value.ownBlock], h2, h5, h6, hr'⟩⟩

theorem base_ok (hI : Inv N w0 M s a) {x : Operand} {E : TypeId} {e : Ty} {sp : Option Nat} {l : List e.den} (he : e.pure = true) (hb : appBase s E e (ev s x) = some (sp, l, false)) :
    ∃ css, M.w.ownsRow 0 E e.size (a.eval x) l.length css.flatten ∧ repAll (rep M e) css l ∧ (∀ g, (a.eval x).ownBlock = some g → ∃ i, M.own g = .atl i ∧ sp = some i) := by
  have hR := R_ev hI x
  unfold appBase at hb
  split at hb
  · rename_i hx
    cases hb
    have hev := nilS_val hI hx
    exact ⟨[], ⟨by simp, .inl ⟨hev, rfl⟩⟩, trivial, fun g hg => by rw [hev] at hg; cases hg⟩
  · rename_i e0 l0 hx
    cases hb
    rw [hx] at hR
    simp only [R, rep] at hR
    obtain ⟨cs, h0, _, ad, cap, rfl, _, _, _, _, h3, h4⟩ := hR
    obtain ⟨rfl, rfl⟩ := h3 trivial
    have hl0 : l0 = List.nil := by
      by_cases h : l0 = List.nil
      · exact h
      · obtain ⟨_, _, _, h, _⟩ := h4 h; cases h
    subst hl0
    have hev : a.eval x = .slice none 0 0 := h0
    exact ⟨[], ⟨by simp, .inl ⟨hev, rfl⟩⟩, trivial, fun g hg => by rw [hev] at hg; cases hg⟩
  · rename_i i x' hx
    split at hb
    · rename_i T e' l' hl
      cases hT : Nat.beq T E <;> simp only [hT, cond_true, cond_false] at hb
      · cases hb
      have hT := Nat.eq_of_beq_eq_true hT
      subst hT
      split at hb
      · rename_i l1 h1
        have := as_eq h1
        cases this
        cases hb
        rw [hx] at hR
        simp only [R, rep] at hR
        obtain ⟨cs, h0, hi, rfl, _⟩ := hR
        have hev : a.eval x = M.φ i := h0
        have hO := (hI.holds.objs i).2
        rw [hl] at hO
        obtain ⟨_, ad, cap, m1, m2, m3, m4⟩ := hO
        rcases m4 with ⟨rfl, rfl⟩ | ⟨g, cur, css, k1, k2, k3, k4, k5, k6⟩
        · have hl0 : l = [] := List.eq_nil_of_length_eq_zero (by omega)
          subst hl0
          have hev : a.eval x = .slice none 0 0 := hev.trans m1
          exact ⟨[], ⟨by simp, .inl ⟨hev, rfl⟩⟩, trivial, fun g hg => by rw [hev] at hg; cases hg⟩
        · subst k1
          refine ⟨css, ⟨flatten_length k6, .inr ⟨g, cap, cur, hev.trans m1, Nat.zero_le _, k3, m2, m3, k4, k5⟩⟩, k6, fun g' hg => ?_⟩
          rw [hev, m1] at hg
          cases hg
          exact ⟨i, k2, rfl⟩
      · cases hb
    · cases hb
  · split at hb <;> cases hb
  · cases hb

theorem clip_ok (hI : Inv N w0 M s a) {x : Operand} {E : TypeId} {e : Ty} {sp : Option Nat} {l : List e.den} (hb : appBase s E e (ev s x) = some (sp, l, true)) :
    ∃ ad css, a.eval x = .slice ad l.length l.length ∧ l.length ≤ maxLen ∧ repAll (rep M e) css l ∧ (l = [] ∨ ∃ b off, ad = some ⟨b, off, none⟩ ∧ b < M.w.heap.size ∧ M.own b = .imm ∧ cellsAt M.w b off css.flatten) := by
  have hR := R_ev hI x
  unfold appBase at hb
  split at hb
  · cases hb
  · cases hb
  · split at hb
    · rename_i T e' l' hl
      cases hT : Nat.beq T E <;> simp only [hT, cond_true, cond_false] at hb
      · cases hb
      · split at hb <;> cases hb
    · cases hb
  · rename_i e' l' hx
    split at hb
    · rename_i l1 h1
      have := as_eq h1
      cases this
      cases hb
      rw [hx] at hR
      simp only [R, rep] at hR
      obtain ⟨cs, h0, he, ad, cap, rfl, h1, h2, hq, _, _, hc⟩ := hR
      have hcap := hq trivial
      subst hcap
      by_cases hl : l = []
      · exact ⟨ad, [], h0, h2, by subst hl; trivial, .inl hl⟩
      · obtain ⟨b, off, css, k1, k2, k3, k4, k5⟩ := hc hl
        exact ⟨ad, css, h0, h2, k5, .inr ⟨b, off, k1, k2, k3, k4⟩⟩
    · cases hb
  · cases hb

/-- A new block that nobody may change. -/
def Mem.newI (M : Mem) (w' : World) : Mem := { M with own := fun b => if b = M.w.heap.size then .imm else M.own b, w := w' }

theorem newI_turn {w' : World} (h1 : w'.os = M.w.os) (h2 : w'.tape = M.w.tape) (h3 : w'.output = M.w.output) (h4 : M.w.heap.size ≤ w'.heap.size) (h5 : ∀ b, b < M.w.heap.size → w'.heap[b]? = M.w.heap[b]?) (X : Nat → Prop) : Turn M (M.newI w') X := by
  have ho : ∀ b, b < M.w.heap.size → (M.newI w').own b = M.own b := fun b hb => by simp [Mem.newI, Nat.ne_of_lt hb]
  exact ⟨⟨Nat.le_refl _, fun _ _ => rfl, fun b hb h => ⟨(ho b hb).trans h, h5 b hb⟩⟩, ⟨h1, h2, h3, h4, fun b hb _ => ⟨h5 b hb, ho b hb⟩⟩, fun b hb id h _ => ⟨(ho b hb).trans h, h5 b hb⟩⟩

theorem Inv.turn (hI : Inv N w0 M s a) {M' : Mem} (hS : Turn M M' (fun _ => False)) (hnx : M'.nx = M.nx) : Inv N w0 M' s a :=
  hI.to hS (σ' := s.σ) (nx' := s.nx) (hnx.trans hI.holds.nx) fun _ => .inl ⟨rfl, fun h => h⟩

/-- What does not touch the object is as it was. -/
theorem turn_same {M' : Mem} {X : Nat → Prop} (hT : Turn M M' X) {b : Nat} (hb : b < M.w.heap.size) (h : ∀ id, M.own b = .atl id → ¬ X id) : M'.w.heap[b]? = M.w.heap[b]? ∧ M'.own b = M.own b := by
  cases hm : M.own b with
  | imm => exact ⟨(hT.le.imm b hb hm).2, (hT.le.imm b hb hm).1⟩
  | alien => exact ⟨(hT.frame.block b hb (.inr hm)).1, by rw [(hT.frame.block b hb (.inr hm)).2, hm]⟩
  | atl id => exact ⟨(hT.keep b hb id hm (h id hm)).2, (hT.keep b hb id hm (h id hm)).1⟩

theorem appBase_id {E : TypeId} {e : Ty} {av : AV} {j : Nat} {l : List e.den} {c : Bool} (h : appBase s E e av = some (some j, l, c)) (n : Nat) : appId av n = j := by
  unfold appBase at h
  split at h <;> try (cases h; done)
  · rename_i i _
    split at h <;> try (cases h; done)
    rename_i T e' l' _
    cases hb : Nat.beq T E <;> simp only [hb, cond_true, cond_false] at h
    · cases h
    · split at h
      · cases h; rfl
      · cases h
  · split at h <;> cases h

/-- What comes behind an operation that touches at most the object i. -/
def GoesT (N : Nat) (w0 : Entry) (i : Nat) (M : Mem) {R : Type} (k : St → Option R) (r : R) (K : Act → World → Prop) : Prop :=
  ∀ s' M' a', k s' = some r → Inv N w0 M' s' a' → (∀ b, b < M.w.heap.size → M.own b ≠ .atl i → M'.w.heap[b]? = M.w.heap[b]? ∧ M'.own b = M.own b) → K a' M'.w

theorem step_append_t (hC : CtxOk0 P C) (hI : Inv N w0 M s a) (hd : ∀ d, o.dst = some d → d < N) {args : Array Operand} {Ts : Array TypeId} (ho : o.op = .call { callee := .builtin .append, args := args, argTypes := Ts }) (hg : ∀ x y, args.toList = [x, y] → GoesT N w0 (appId (ev s x) s.nx) M k r K)
    (hs : stepOp C quiet o s k = some r) : o.wp P a M.w K Q := by
  unfold stepOp at hs
  simp only [ho] at hs
  obtain ⟨args⟩ := args
  obtain ⟨Ts⟩ := Ts
  split at hs <;> try (rename_i h _ _; cases h; done)
  all_goals try (rename_i h _; cases h; done)
  all_goals try (cases hs; done)
  · rename_i x y T U _ ha ht
    simp only at ha ht
    subst ha
    subst ht
    cases hT : C.ty T with
    | none => simp [hT] at hs
    | some t =>
    cases t <;> simp only [hT] at hs <;> try (cases hs; done)
    rename_i q e
    obtain ⟨E, hu, _, he, hE⟩ := (hC.ty _ _ hT).under_slice
    obtain ⟨i, z0, i1, i2, i3, i4, i5⟩ := hE.info
    have hel := hC.elem _ _ _ _ hT hu
    have hby := hC.bytes _ _ _ _ _ hT hu i1
    subst hel
    cases hy : elems s.σ e (ev s y) with
    | none => simp [hy] at hs
    | some m =>
    cases hx : appBase s (C.elem T) e (ev s x) with
    | none => simp [hy, hx] at hs
    | some sz =>
    obtain ⟨sp, l, clip⟩ := sz
    simp only [hy, hx] at hs
    cases hc : (Nat.beq T U && Nat.blt 0 (C.bytes T) && Nat.blt 0 e.size) <;> simp only [hc, cond_true, cond_false] at hs
    · cases hs
    simp only [Bool.and_eq_true, Nat.blt_eq] at hc
    obtain ⟨⟨hTU, hb0⟩, hs0⟩ := hc
    have hTU := Nat.eq_of_beq_eq_true hTU
    subst hTU
    have hzs : z0.cells.size = e.size := by
      have := rep_length (zeroOk_rep (M := M) i5).1
      simpa using this
    obtain ⟨ad, cap, css', y1, y2, y4, y5⟩ := elems_ok hI hy
    have hnl := flatten_length y4
    have hex : ∀ v' w', (Builtin.append_ #[T, T] o.type #[a.eval x, a.eval y]).run P M.w = .ok v' w' → K (a.put o.dst v') w' → o.wp P a M.w K Q := fun v' w' hr hK => by
      refine wp_value (v := v') (w' := w') ?_ hK
      rw [exec_builtin ho]
      simp only [builtin, List.map_toArray, List.map_cons, List.map_nil, Sem.run_bind, hr, Result.andThen_ok, Sem.run_pure]
    cases hr : decide (((l ++ m).length : Int) * C.bytes T ≤ roomBytes') <;> simp only [hr, cond_true, cond_false] at hs
    · cases hs
    simp only [decide_eq_true_eq] at hr
    have hr := room_nat hr
    rw [List.length_append] at hr
    cases clip with
    | false =>
      simp only [cond_false] at hs
      obtain ⟨css, b1, b2, b3⟩ := base_ok hI he hx
      have fin : ∀ v' w', (Builtin.append_ #[T, T] o.type #[a.eval x, a.eval y]).run P M.w = .ok v' w' → w'.ownsRow 0 (C.elem T) e.size v' (l ++ m).length (css ++ css').flatten → M.w.grownBy w' (a.eval x).ownBlock →
          (v'.ownBlock = (a.eval x).ownBlock ∨ v'.ownBlock = some M.w.heap.size) → o.wp P a M.w K Q := fun v' w' h1 h2 h3 h4 => by
        refine hex v' w' h1 ?_
        have hT := grow_turn (X := fun i => sp = some i) b3 h3 h4
        obtain ⟨v1, hob⟩ := row_or he hT.le h2 (repAll_append b2 y4)
        have hnx := hI.holds.nx
        have hR : R (M.grow v' w') (.d (.ref s.nx) ()) v' := by
          simp only [R, rep]
          exact ⟨[v'], rfl, by rw [← hnx]; exact Nat.lt_succ_self _, by simp [Mem.grow, ← hnx], by simp [Mem.grow, ← hnx, v1]⟩
        cases sp with
        | none =>
          have hI' := hI.to hT (σ' := (s.nx, .vec (C.elem T) e (l ++ m)) :: s.σ) (nx' := s.nx + 1) (by rw [← hnx]; rfl) (fun id => by
            rw [lkO_cons]
            by_cases h : id = s.nx
            · rw [if_pos h]; exact .inr ⟨.inr (by omega), by rw [h, ← hnx]; exact hob⟩
            · rw [if_neg h]; exact .inl ⟨rfl, fun h => by cases h⟩)
          exact hg x y rfl _ (M.grow v' w') _ hs (hI'.put hd hR) (fun b hb _ => turn_same hT hb (fun id _ h => by cases h))
        | some j =>
          have hI' := hI.to hT (σ' := (s.nx, .vec (C.elem T) e (l ++ m)) :: (j, .gone) :: s.σ) (nx' := s.nx + 1) (by rw [← hnx]; rfl) (fun id => by
            rw [lkO_cons, lkO_cons]
            by_cases h : id = s.nx
            · rw [if_pos h]; exact .inr ⟨.inr (by omega), by rw [h, ← hnx]; exact hob⟩
            · rw [if_neg h]
              by_cases h' : id = j
              · rw [if_pos h']; exact .inr ⟨.inl rfl, trivial⟩
              · rw [if_neg h']; exact .inl ⟨rfl, fun h => h' (by cases h; rfl)⟩)
          exact hg x y rfl _ (M.grow v' w') _ hs (hI'.put hd hR) (fun b hb hne => turn_same hT hb (fun id h1 h2 => by cases h2; rw [appBase_id hx] at hne; exact hne h1))
      rcases y5 with rfl | ⟨b, off, rfl, y6, y7⟩
      · have hcs : css' = [] := List.eq_nil_of_length_eq_zero (by simpa using repAll_length y4)
        subst hcs
        have hrun : ∃ b n c, a.eval x = .slice b n c ∧ n ≤ c := by
          rcases b1.2 with ⟨h, _⟩ | ⟨g, c, cur, h, _, _, h2, _⟩
          · exact ⟨_, _, _, h, Nat.le_refl _⟩
          · exact ⟨_, _, _, h, h2⟩
        obtain ⟨bx, n, c, hxv, hnc⟩ := hrun
        refine fin (a.eval x) M.w ?_ (by simpa using b1) ⟨rfl, rfl, rfl, Nat.le_refl _, fun _ _ _ => rfl⟩ (.inl rfl)
        rw [y1, hxv]
        exact run_append_zero hu i1 bx ad n c cap hnc
      · obtain ⟨v', w', h1, h2, h3, _, h5⟩ := run_append_own_at (P := P) M.w 0 T o.type (C.elem T) i z0 e.size (C.bytes T) hu i1 i3 i2 hby hzs hs0 (a.eval x) l.length css.flatten b1 ⟨b, off, none⟩ m.length cap css'.flatten hnl
          (cellsAt_add y7) (row_oneCell y4) (room_max hb0 hr) hr (Nat.zero_le _)
        refine fin v' w' (by rw [y1]; exact h1) ?_ h3 h5
        rw [List.length_append, List.flatten_append]
        exact h2
    | true =>
      simp only [cond_true] at hs
      obtain ⟨adx, cssx, hx1, hx3, x9, hx4⟩ := clip_ok hI hx
      have hlm : List.length l + List.length m ≤ maxLen := room_max hb0 hr
      have fin : ∀ v' (M' : Mem), Turn M M' (fun _ => False) → M'.nx = M.nx → (Builtin.append_ #[T, T] o.type #[a.eval x, a.eval y]).run P M.w = .ok v' M'.w →
          (∃ ad cap, v' = .slice ad (List.length l + List.length m) cap ∧ List.length l + List.length m ≤ cap ∧ cap ≤ maxLen ∧ (l ++ m ≠ [] → ∃ b off css, ad = some ⟨b, off, none⟩ ∧ b < M'.w.heap.size ∧ M'.own b = .imm ∧ cellsAt M'.w b off css.flatten ∧ repAll (rep M' e) css (l ++ m))) →
          o.wp P a M.w K Q := fun v' M' h1 hn h3 h4 => by
        obtain ⟨adr, capr, rfl, h5, h6, h7⟩ := h4
        refine hex _ M'.w h3 (hg x y rfl _ M' _ hs ((hI.turn h1 hn).put hd ?_) (fun b hb _ => turn_same h1 hb (fun _ _ h => h)))
        simp only [R, rep]
        exact ⟨[_], rfl, he, adr, capr, by rw [List.length_append], by rw [List.length_append]; exact h5, h6, by omega, by omega, by omega, h7⟩
      by_cases hm : m = []
      · subst hm
        refine fin (a.eval x) M (Turn.refl _ _) rfl ?_ ⟨adx, _, hx1, Nat.le_refl _, hx3, fun hne => ?_⟩
        · rw [y1, hx1]
          exact run_append_zero hu i1 adx ad _ _ cap (Nat.le_refl _)
        · rw [List.append_nil] at hne ⊢
          obtain ⟨b, off, k1, k2, k3, k4⟩ := hx4.resolve_left hne
          exact ⟨b, off, cssx, k1, k2, k3, k4, x9⟩
      · obtain ⟨b, off, rfl, y6, y7⟩ := y5.resolve_left hm
        have hm0 : 0 < List.length m := List.length_pos_iff.2 hm
        have hgrow : ∀ (olds : List (List Value)) (gc : Nat), repAll (rep M e) olds l → List.length l + List.length m ≤ gc → gc ≤ maxLen →
            (Builtin.append_ #[T, T] o.type #[a.eval x, a.eval y]).run P M.w = .ok (.slice (some ⟨M.w.heap.size, 0, none⟩) (List.length l + List.length m) gc) (M.w.drew.alloc (.cells (olds.flatten.toArray ++ css'.flatten.toArray ++ Builtin.zeroCells z0.cells (gc - (List.length l + List.length m))) (C.elem T))) →
            o.wp P a M.w K Q := fun olds gc h1 h2 h3 h4 => by
          have hT := newI_turn (M := M) (w' := M.w.drew.alloc (.cells (olds.flatten.toArray ++ css'.flatten.toArray ++ Builtin.zeroCells z0.cells (gc - (List.length l + List.length m))) (C.elem T))) rfl rfl rfl (Nat.le_of_lt (by simp)) (fun b hb => RowKit.Below.heap_alloc M.w.drew _ b hb) (fun _ => False)
          refine fin _ _ hT rfl h4 ⟨_, gc, rfl, h2, h3, fun _ => ⟨M.w.heap.size, 0, olds ++ css', rfl, ?_, by simp [Mem.newI], ?_, ?_⟩⟩
          · simp [Mem.newI]
          · have hn : (M.w.drew.alloc (.cells (olds.flatten.toArray ++ css'.flatten.toArray ++ Builtin.zeroCells z0.cells (gc - (List.length l + List.length m))) (C.elem T))).heap[M.w.heap.size]? = some (.cells _ (C.elem T) (0, 0)) := heap_alloc_new M.w.drew _
            refine cellsAt_of_block hn (n := (olds ++ css').flatten.length) ?_
            simp only [Array.toList_append, List.flatten_append]
            exact List.take_left
          · exact repAll_append (repAll_mono (fun _ _ hr => rep_mono hT.le hr) h1) (repAll_mono (fun _ _ hr => rep_mono hT.le hr) y4)
        have hge := grownCap_ge M.w (List.length l + List.length m) (List.length l) (C.elem T)
        have hlg := grownCap_le_maxLen M.w (List.length l + List.length m) (List.length l) (C.elem T) hlm
        have hfit : Builtin.nextslicecap (List.length l + List.length m) (List.length l) * i.bytes ≤ 281474976710656 := growslice_fits (by omega) (by rw [hby]; exact hr)
        have h63 : ((List.length l + List.length m : Nat) : Int) ≤ 9223372036854775807 := by simp only [maxLen] at hlm; omega
        by_cases hl : l = []
        · subst hl
          cases adx with
          | none =>
            refine hgrow [] _ trivial hge hlg ?_
            rw [hx1, y1]
            have hrr := run_append_nil (P := P) M.w T o.type (C.elem T) i z0 hu i1 i3 ⟨b, off, none⟩ (List.length m) cap css'.flatten (by rw [i2]; exact hnl) (cellsAt_add y7) hm0 (by simpa using h63) (by rw [hby]; have := hr; simp only [List.length_nil, Nat.zero_add] at this; omega)
            simpa only [List.length_nil, Nat.zero_add, List.flatten_nil, Array.empty_append] using hrr
          | some ax =>
            refine hgrow [] _ trivial hge hlg ?_
            rw [hx1, y1]
            have hrr := run_append_grow (P := P) M.w T o.type (C.elem T) i z0 hu i1 i3 ax 0 0 [] (by simp) (by simp) ⟨b, off, none⟩ (List.length m) cap css'.flatten (by rw [i2]; exact hnl) (cellsAt_add y7) (by omega) (by simpa using h63) (by simpa using hfit)
            simpa only [List.length_nil, Nat.zero_add, List.flatten_nil] using hrr
        · obtain ⟨bx, offx, rfl, x6, x7, x8⟩ := hx4.resolve_left hl
          refine hgrow cssx _ x9 hge hlg ?_
          rw [hx1, y1]
          exact run_append_grow (P := P) M.w T o.type (C.elem T) i z0 hu i1 i3 ⟨bx, offx, none⟩ (List.length l) (List.length l) cssx.flatten (by rw [i2]; exact flatten_length x9) (cellsAt_add x8) ⟨b, off, none⟩ (List.length m) cap css'.flatten (by rw [i2]; exact hnl) (cellsAt_add y7)
            (by omega) h63 hfit


/-- Elements from the j-th on are written over. -/

theorem step_append (hC : CtxOk0 P C) (hq : quiet = false) (hI : Inv N w0 M s a) (hd : ∀ d, o.dst = some d → d < N) (hg : Goes N w0 quiet o s M k r K) {args : Array Operand} {Ts : Array TypeId} (ho : o.op = .call { callee := .builtin .append, args := args, argTypes := Ts })
    (hs : stepOp C quiet o s k = some r) : o.wp P a M.w K Q :=
  step_append_t hC hI hd ho (fun _ _ _ => fun s' M' a' h1 h2 _ => hg s' M' a' h1 h2 (fun e => by simp [hq] at e)) hs

theorem row_write (hI : Inv N w0 M s a) {i j g cap : Nat} {T : TypeId} {e : Ty} {l m : List e.den} {cur : Array Value} {css css' : List (List Value)} (hl : lkO s.σ i = .vec T e l) (he : e.pure = true) (hφ : M.φ i = .slice (some ⟨g, 0, none⟩) l.length cap) (h1 : l.length ≤ cap)
    (h2 : cap ≤ maxLen) (h3 : M.own g = .atl i) (h4 : M.w.heap[g]? = some (.cells cur T (0, 0))) (h5 : cur.size = cap * e.size) (h6 : cur.toList.take (l.length * e.size) = css.flatten) (h7 : repAll (rep M e) css l) (hm : repAll (rep M e) css' m) (hj : j + m.length ≤ l.length) :
    Inv N w0 { M with w := M.w.setRow g (cur.toList.take (j * e.size) ++ css'.flatten ++ cur.toList.drop (j * e.size + css'.flatten.length)).toArray } (s.setO i (.vec T e (l.take j ++ (m ++ l.drop (j + m.length))))) a := by
  have hi : i < M.nx := (hI.holds.objs i).1.resolve_left (by rw [hl]; simp)
  have hlen : (l.take j ++ (m ++ l.drop (j + m.length))).length = l.length := by simp; omega
  have hcl : cur.toList.length = cur.size := by simp
  have hfl' := flatten_length hm
  have hfl := flatten_length h7
  have e1 : j * e.size + m.length * e.size ≤ l.length * e.size := by rw [← Nat.add_mul]; exact Nat.mul_le_mul_right _ hj
  have e2 : l.length * e.size ≤ cap * e.size := Nat.mul_le_mul_right _ h1
  refine write_inv hI h4 h3 hi ⟨he, some ⟨g, 0, none⟩, cap, by rw [hlen]; exact hφ, by rw [hlen]; exact h1, h2, .inr ⟨g, _, css.take j ++ (css' ++ css.drop (j + m.length)), rfl, h3, setRow_heap M.w g cur _ T _ h4, ?_, ?_, ?_⟩⟩
  · simp only [List.size_toArray, List.length_append, List.length_take, List.length_drop, hcl]
    omega
  · rw [hlen, List.flatten_append, List.flatten_append, flatten_take _ _ (repAll_len h7), flatten_drop _ _ (repAll_len h7), ← h6, Nat.add_mul, hfl']
    have hc' : css'.flatten.length = m.length * e.size := hfl'
    generalize css'.flatten = F at *
    generalize l.length * e.size = B at *
    generalize m.length * e.size = D at *
    generalize j * e.size = A at *
    apply List.ext_getElem?
    intro jj
    simp only [List.getElem?_take, List.getElem?_drop, List.getElem?_append, List.length_append, List.length_take]
    repeat' split
    all_goals first
      | rfl
      | omega
      | (congr 1; omega)
  · exact repAll_mono (fun _ _ => rep_mono (row_turn h4 h3).le) (repAll_append (repAll_take _ h7) (repAll_append hm (repAll_drop _ h7)))

theorem Inv.same (hI : Inv N w0 M s a) {i : Nat} {ob : Ob} (h : lkO s.σ i = ob) : Inv N w0 M (s.setO i ob) a := by
  have := hI.to (Turn.refl M (fun _ => False)) (σ' := (i, ob) :: s.σ) (nx' := s.nx) hI.holds.nx (fun id => by
    rw [lkO_cons]
    by_cases h' : id = i
    · rw [if_pos h']; subst h'; exact .inl ⟨h.symm, fun h => h⟩
    · rw [if_neg h']; exact .inl ⟨rfl, fun h => h⟩)
  exact this

/-- What an owned slice is. -/
theorem vec_ok (hI : Inv N w0 M s a) {x : Operand} {i j len : Nat} {e0 e : Ty} {T : TypeId} {l : List e.den} (hx : elemOf s.σ (ev s x) = some (i, e0, j, len)) (hl : lkO s.σ i = .vec T e l) :
    e0 = e ∧ e.pure = true ∧ ∃ ad cap ad', M.φ i = .slice ad l.length cap ∧ l.length ≤ cap ∧ cap ≤ maxLen ∧ a.eval x = .slice ad' len (cap - j) ∧ j + len ≤ l.length ∧
      ((ad = none ∧ cap = 0) ∨ ∃ g cur css, ad = some ⟨g, 0, none⟩ ∧ (j < cap → ad' = some ⟨g, j * e.size, none⟩) ∧ M.own g = .atl i ∧ M.w.heap[g]? = some (.cells cur T (0, 0)) ∧ cur.size = cap * e.size ∧ cur.toList.take (l.length * e.size) = css.flatten ∧ repAll (rep M e) css l) := by
  obtain ⟨_, ad, n, cap, ad', q1, q2, q3, q4, q5, _, q7⟩ := elemOf_ok hI.holds.objs hx (R_ev hI x)
  have hO := (hI.holds.objs i).2
  rw [hl] at hO
  obtain ⟨he, ad0, cap0, m1, m2, m3, m4⟩ := hO
  rw [q1] at m1
  simp only [Value.slice.injEq] at m1
  obtain ⟨rfl, rfl, rfl⟩ := m1
  have e1 : e0 = e := by
    rcases q7 with ⟨T1, l1, q1, _⟩ | ⟨l1, q1, _⟩ <;> rw [hl] at q1 <;> cases q1
    rfl
  subst e1
  refine ⟨rfl, he, ad, cap, ad', q1, m2, m3, q2, q3, m4.imp id fun ⟨g, cur, css, k1, k2, k3, k4, k5, k6⟩ => ⟨g, cur, css, k1, fun h => ?_, k2, k3, k4, k5, k6⟩⟩
  rw [q5 h, k1]
  simp [add_plain]

theorem step_copy (hC : CtxOk0 P C) (hq : quiet = false) (hI : Inv N w0 M s a) (hd : ∀ d, o.dst = some d → d < N) (hg : Goes N w0 quiet o s M k r K) {args : Array Operand} {Ts : Array TypeId} (ho : o.op = .call { callee := .builtin .copy, args := args, argTypes := Ts })
    (hs : stepOp C quiet o s k = some r) : o.wp P a M.w K Q := by
  unfold stepOp at hs
  simp only [ho] at hs
  obtain ⟨args⟩ := args
  obtain ⟨Ts⟩ := Ts
  split at hs <;> try (rename_i h _ _; cases h; done)
  all_goals try (rename_i h _; cases h; done)
  all_goals try (cases hs; done)
  · rename_i x y T U _ ha ht
    simp only at ha ht
    subst ha
    subst ht
    cases hT : C.ty T with
    | none => simp [hT] at hs
    | some t =>
    cases t <;> simp only [hT] at hs <;> try (cases hs; done)
    rename_i q e
    obtain ⟨E, hu, _, he, hE⟩ := (hC.ty _ _ hT).under_slice
    obtain ⟨i, z0, i1, i2, i3, i4, i5⟩ := hE.info
    cases hy : elems s.σ e (ev s y) with
    | none => simp [hy] at hs
    | some m =>
    cases hx : elemOf s.σ (ev s x) with
    | none => simp [hy, hx] at hs
    | some p =>
    obtain ⟨id, e0, j, len⟩ := p
    simp only [hy, hx] at hs
    cases hl : lkO s.σ id <;> simp only [hl] at hs <;> try (cases hs; done)
    rename_i T' e' l
    cases ham : (Dat.mk (.slice 0 e) (List.take len m)).as (.slice 0 e') with
    | none => simp [ham] at hs
    | some m' =>
    simp only [ham] at hs
    have := as_eq ham
    cases this
    cases hc : Nat.beq e.size 1 <;> simp only [hc, cond_true, cond_false] at hs
    · cases hs
    have h1 := Nat.eq_of_beq_eq_true hc
    obtain ⟨rfl, _, ad, cap, ad', v1, v2, v3, v4, v5, v6⟩ := vec_ok hI hx hl
    obtain ⟨ay, capy, css', y1, y2, y4, y5⟩ := elems_ok hI hy
    have hnl := flatten_length y4
    rw [h1, Nat.mul_one] at hnl
    have hinf : (P.info? E).map (·.size) = some 1 := by rw [i1]; simp [i2, h1]
    have fin : ∀ (M' : Mem), Inv N w0 M' (s.setO id (.vec T' e0 (l.take j ++ (m.take len ++ l.drop (j + (m.take len).length))))) a →
        (Builtin.copy_ #[T, U] o.type #[a.eval x, a.eval y]).run P M.w = .ok (goInt (min m.length len : Nat)) M'.w → o.wp P a M.w K Q := fun M' hI' hr => by
      refine wp_value (v := goInt (min m.length len : Nat)) (w' := M'.w) ?_ (put_int hI' hd (hg.other hq) hs)
      rw [exec_builtin ho]
      simp only [builtin, List.map_toArray, List.map_cons, List.map_nil, Sem.run_bind, hr, Result.andThen_ok, Sem.run_pure]
    have hnone : min m.length len = 0 → o.wp P a M.w K Q := fun h0 => by
      have ht : m.take len = [] := List.eq_nil_of_length_eq_zero (by rw [List.length_take]; omega)
      refine fin M ?_ ?_
      · rw [ht]
        exact hI.same (by rw [hl]; simp)
      · rw [v4, y1, h0]
        exact run_copy_none (P := P) M.w T U o.type E ad' ay len (cap - j) (List.length m) capy hu hinf h0
    by_cases h0 : min m.length len = 0
    · exact hnone h0
    have hm0 : m ≠ [] := fun e => h0 (by subst e; simp)
    obtain ⟨b, off, rfl, y6, y7⟩ := y5.resolve_left hm0
    rcases v6 with ⟨_, rfl⟩ | ⟨g, cur, css, k1, k2, k3, k4, k5, k6, k7⟩
    · exact absurd (show min m.length len = 0 by omega) h0
    have had := k2 (by omega)
    have hcsl : (css'.take len).flatten.length = min m.length len := by
      rw [flatten_take _ _ (repAll_len y4), h1, Nat.mul_one, List.length_take, hnl, Nat.min_comm]
    have hml : (m.take len).length = min m.length len := by rw [List.length_take, Nat.min_comm]
    refine fin _ (row_write (j := j) (cap := cap) hI hl he (v1.trans (by rw [k1])) v2 v3 k3 k4 k5 k6 k7 (repAll_take len y4) (by rw [hml]; omega)) ?_
    rw [v4, y1, had]
    have hrun := run_copy_row (P := P) M.w T U o.type E g (j * e0.size) len (cap - j) ⟨b, off, none⟩ (List.length m) capy cur T' (css'.take len).flatten hu hinf k4 hcsl (fun jj u hj => ?_) (by rw [hcsl, k5, h1]; omega)
      (fun u hu => row_oneCell (repAll_take _ y4) u hu)
    · rw [hrun, hcsl]
    · refine cellsAt_add y7 jj u ?_
      rw [flatten_take _ _ (repAll_len y4), List.getElem?_take] at hj
      split at hj
      · exact hj
      · cases hj

theorem step_clear (hC : CtxOk0 P C) (hq : quiet = false) (hI : Inv N w0 M s a) (hd : ∀ d, o.dst = some d → d < N) (hg : Goes N w0 quiet o s M k r K) {args : Array Operand} {Ts : Array TypeId} (ho : o.op = .call { callee := .builtin .clear, args := args, argTypes := Ts })
    (hs : stepOp C quiet o s k = some r) : o.wp P a M.w K Q := by
  unfold stepOp at hs
  simp only [ho] at hs
  obtain ⟨args⟩ := args
  obtain ⟨Ts⟩ := Ts
  split at hs <;> try (rename_i h _ _; cases h; done)
  all_goals try (rename_i h _; cases h; done)
  all_goals try (cases hs; done)
  · rename_i x T _ ha ht
    simp only at ha ht
    subst ha
    subst ht
    cases hT : C.ty T with
    | none => simp [hT] at hs
    | some t =>
    cases t <;> simp only [hT] at hs <;> try (cases hs; done)
    rename_i q e
    obtain ⟨E, hu, _, he, hE⟩ := (hC.ty _ _ hT).under_slice
    obtain ⟨i, z0, i1, i2, i3, i4, i5⟩ := hE.info
    cases hx : elemOf s.σ (ev s x) with
    | none => simp [hx] at hs
    | some p =>
    obtain ⟨id, e0, j, len⟩ := p
    simp only [hx] at hs
    cases hl : lkO s.σ id <;> simp only [hl] at hs <;> try (cases hs; done)
    rename_i T' e' l
    cases hee : e.beq e' <;> simp only [hee, cond_true, cond_false] at hs
    · cases hs
    have := Ty.beq_eq hee
    subst this
    obtain ⟨rfl, _, ad, cap, ad', v1, v2, v3, v4, v5, v6⟩ := vec_ok hI hx hl
    have fin : ∀ (M' : Mem), Inv N w0 M' (s.setO id (.vec T' e0 (l.take j ++ (List.replicate len e0.zero ++ l.drop (j + len))))) a →
        (Builtin.clear_ #[T] o.type #[a.eval x]).run P M.w = .ok (.tuple #[]) M'.w → o.wp P a M.w K Q := fun M' hI' hr => by
      refine wp_value (v := .tuple #[]) (w' := M'.w) ?_ ?_
      · rw [exec_builtin ho]
        simp only [builtin, List.map_toArray, List.map_cons, List.map_nil, Sem.run_bind, hr, Result.andThen_ok, Sem.run_pure]
      · exact hg _ _ _ hs (hI'.put hd (by simp [R])) (fun e => by simp [hq] at e)
    have hnone : (∀ ad0, ad' = some ad0 → len = 0) → (len = 0 ∨ l = []) → o.wp P a M.w K Q := fun h0 h1 => by
      refine fin M ?_ ?_
      · refine hI.same ?_
        rw [hl]
        rcases h1 with rfl | rfl
        · simp
        · have : len = 0 := by simp at v5; omega
          subst this; simp
      · rw [v4]
        cases ad' with
        | none => simp [Builtin.clear_, run_underlying hu]
        | some ad0 => rw [h0 ad0 rfl]; simp [Builtin.clear_, run_underlying hu]
    by_cases h0 : len = 0
    · exact hnone (fun _ _ => h0) (.inl h0)
    rcases v6 with ⟨_, rfl⟩ | ⟨g, cur, css, k1, k2, k3, k4, k5, k6, k7⟩
    · omega
    have had := k2 (by omega)
    have hz := (zeroOk_rep (M := M) i5).1
    have hzs : z0.cells.size = e0.size := by
      have := rep_length hz
      simpa using this
    have hrep := repAll_replicate hz len
    have hfl := flatten_length hrep
    rw [List.length_replicate] at hfl
    have hst := run_storeCells_at P g (j * e0.size) T' (List.replicate len z0.cells.toList).flatten 0 cur M.w k4 (by rw [hfl, k5, Nat.add_zero, ← Nat.add_mul]; exact Nat.mul_le_mul_right _ (by omega)) (fun u hu => row_oneCell hrep u hu)
    have hzc : (Builtin.zeroCells z0.cells len).toList = (List.replicate len z0.cells.toList).flatten := by
      by_cases hp : 0 < z0.cells.size
      · exact madeCells_flatten z0.cells len hp
      · have hp : z0.cells.size = 0 := by omega
        have h1 : z0.cells.toList = [] := List.eq_nil_of_length_eq_zero (by simpa using hp)
        have : (List.replicate len z0.cells.toList).flatten = [] := List.eq_nil_of_length_eq_zero (by simp [hp])
        rw [this]
        simp [Builtin.zeroCells, hp]
    have hw := row_write (j := j) (cap := cap) hI hl he (v1.trans (by rw [k1])) v2 v3 k3 k4 k5 k6 k7 hrep (by rw [List.length_replicate]; exact v5)
    rw [List.length_replicate] at hw
    refine fin _ hw ?_
    rw [v4, had]
    obtain ⟨len, rfl⟩ : ∃ n, len = n + 1 := ⟨len - 1, by omega⟩
    have hzv : (zeroValue E).run P M.w = .ok z0 M.w := by simp [zeroValue, typeInfo, i1, i3]
    simp only [Nat.add_zero] at hst
    simp [Builtin.clear_, run_underlying hu, hzv, hzc, hst]

theorem step_touch (hC : CtxOk0 P C) (hI : Inv N w0 M s a) (hd : ∀ d, o.dst = some d → d < N) {i : Nat} (hg : GoesT N w0 i M k r K) (ht : touches s o = some i)
    (hs : stepOp C quiet o s k = some r) : o.wp P a M.w K Q := by
  have ht0 := ht
  unfold touches at ht
  split at ht
  · rename_i T x y ho
    exact step_store_touch hC hI (fun s' M' a' h1 h2 h3 => hg s' M' a' h1 h2 fun b _ => h3 b) ht0 ⟨T, x, y, ho⟩ hs
  · rename_i args Ts ho
    refine step_append_t hC hI hd ho (fun x y hxy => ?_) hs
    rw [hxy] at ht
    simp only [Option.some.injEq] at ht
    rw [ht]
    exact hg
  · cases ht

end
end Go.Lift
