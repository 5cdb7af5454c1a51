import Derived.Test.YtbdbjamebjbhnaaLStep7
set_option linter.all false
/- OTHER NAMES; CALLS. -/
namespace Go.Lift

/-- The function comes back with a value and a world of which R holds. -/
def CallsTo (P : Program) (f : FuncId) (args : Array Value) (w : World) (R : Value → World → Prop) : Prop :=
  (∃ v w', (callFunc f args).run P w = .ok (.value v) w' ∧ R v w') ∨
  ((callFunc f args).run P w = .ok (.enter f args) w ∧ Calls P f args w fun e w' => ∃ v, e = .returned v ∧ R v w')

/-- The values of the arguments that are handed over. -/
def rawV : List Bool → List Value → List Value
  | m :: ms, v :: vs => bif m then v :: rawV ms vs else rawV ms vs
  | _, _ => []

/-- How a function comes back. -/
def After (M : Mem) (modes : List Bool) (vals : List Value) (res : AV) (as' : List AV) (σ' : Sto) (nx' : Nat) (v : Value) (w' : World) : Prop :=
  ∃ M' : Mem, M'.w = w' ∧ M'.nx = nx' ∧ (∀ i, i < M.nx → M'.φ i = M.φ i) ∧ Go.Lift.Frame M.w M.own w' M'.own ∧ R M' res v ∧ RC M' as' (rawV modes vals) ∧ OS1 M' σ'

/-- F tells truly what function f computes. -/
def SoundF (P : Program) (f : FuncId) (F : Fun) : Prop :=
  ∀ (M : Mem) (args : List AV) (σ : Sto) (vals : List Value) (R' : Type) (k : AV → List AV → Sto → Nat → Option R') (r : R'), RC M args vals → OS1 M σ → F.run args σ M.nx R' k = some r →
    ∃ res as' σ' nx', k res as' σ' nx' = some r ∧ CallsTo P f vals.toArray M.w (After M F.modes vals res as' σ' nx')

/-! ### Other names -/

structure Ren (f g : Nat → Nat) (M M2 : Mem) : Prop where
  gf : ∀ i, g (f i) = i
  nx : ∀ i, i < M.nx → f i < M2.nx
  φ : ∀ i, i < M.nx → M2.φ (f i) = M.φ i
  w : M2.w = M.w
  own : ∀ b id, b < M.w.heap.size → M.own b = .atl id → M2.own b = .atl (f id)

/-- What was immutable is so still. -/
def Ren.Imm (M M2 : Mem) : Prop := ∀ b, b < M.w.heap.size → M.own b = .imm → M2.own b = .imm

theorem lone_scalar {t : Ty} (hl : t.lone = true) (hp : t.pure = true) : t.scalar = true := by
  induction t with
  | cons a b iha ihb => simp only [Ty.lone, Ty.pure, Ty.scalar, Bool.and_eq_true] at *; exact ⟨iha hl.1 hp.1, ihb hl.2 hp.2⟩
  | fn f c ih => simp only [Ty.lone, Ty.pure, Ty.scalar] at *; exact ih hl hp
  | _ => simp_all [Ty.lone, Ty.pure, Ty.scalar]

section
variable {f g : Nat → Nat} {M M2 : Mem}

theorem rep_same (h : Ren f g M M2) {t : Ty} {cs : List Value} {x : t.den} (hi : Ren.Imm M M2 ∨ t.lone = true) (hp : t.pure = true) (hr : rep M t cs x) : rep M2 t cs x := by
  rcases hi with hi | hi
  · exact rep_pure (fun b hb ho => ⟨hi b hb ho, by rw [h.w]⟩) hp hr
  · exact rep_scalar (lone_scalar hi hp) hr

theorem rep_ren (h : Ren f g M M2) : ∀ {t : Ty} {cs : List Value} {x : t.den}, (Ren.Imm M M2 ∨ t.lone = true) → rep M t cs x → rep M2 (renW f t x).t cs (renW f t x).x ∧ (renW f t x).t.isAgg = t.isAgg := by
  intro t
  induction t with
  | cons a b iha ihb =>
    intro cs x hi hr
    have hi' := hi
    simp only [renW]
    cases hp : (Ty.cons a b).pure <;> simp only [cond_true, cond_false]
    · simp only [rep] at hr ⊢
      obtain ⟨c1, c2, rfl, h1, h2⟩ := hr
      have ha := iha (hi.imp id fun e => by simp only [Ty.lone, Bool.and_eq_true] at e; exact e.1) h1
      have hb := ihb (hi.imp id fun e => by simp only [Ty.lone, Bool.and_eq_true] at e; exact e.2) h2
      exact ⟨⟨c1, c2, rfl, ha.1, hb.1⟩, rfl⟩
    · exact ⟨rep_same h hi hp hr, by trivial⟩
  | fn g' c ih =>
    intro cs x hi hr
    simp only [renW]
    cases hp : c.pure <;> simp only [cond_true, cond_false]
    · simp only [rep] at hr ⊢
      obtain ⟨arr, h1, h2⟩ := hr
      exact ⟨⟨arr, h1, (ih (hi.imp id fun e => by simpa [Ty.lone] using e) h2).1⟩, rfl⟩
    · exact ⟨rep_same h hi (by simpa [Ty.pure] using hp) hr, by trivial⟩
  | ref i =>
    intro cs x _ hr
    simp only [renW, rep] at hr ⊢
    rw [h.φ i hr.1]
    exact ⟨⟨h.nx i hr.1, hr.2⟩, rfl⟩
  | arr n e _ =>
    intro cs x hi hr
    simp only [renW]
    have hp : e.pure = true := by simp only [rep] at hr; exact hr.1
    exact ⟨rep_same h hi (by simpa [Ty.pure] using hp) hr, by trivial⟩
  | int _ => intro cs x hi hr; exact ⟨rep_same h hi rfl hr, rfl⟩
  | bool => intro cs x hi hr; exact ⟨rep_same h hi rfl hr, rfl⟩
  | str => intro cs x hi hr; exact ⟨rep_same h hi rfl hr, rfl⟩
  | slice q e _ => intro cs x hi hr; exact ⟨rep_same h hi rfl hr, rfl⟩
  | nil => intro cs x hi hr; exact ⟨rep_same h hi rfl hr, rfl⟩
  | any => intro cs x hi hr; exact ⟨rep_same h hi rfl hr, rfl⟩
  | nilp m => intro cs x hi hr; exact ⟨rep_same h hi rfl hr, rfl⟩
  | iptr e _ => intro cs x hi hr; exact ⟨rep_same h hi rfl hr, rfl⟩
  | atl e _ => intro cs x hi hr; exact ⟨rep_same h hi rfl hr, rfl⟩

mutual
theorem R_ren (h : Ren f g M M2) : ∀ (a : AV) (v : Value), (Ren.Imm M M2 ∨ a.shares = false) → R M a v → R M2 (a.ren f) v
  | .undef, _, _, _ => by simp [AV.ren, R]
  | .d t x, v, hi, hr => by
    simp only [AV.ren, R] at hr ⊢
    obtain ⟨cs, h1, h2⟩ := hr
    obtain ⟨h3, h4⟩ := rep_ren h (hi.imp id fun e => by simpa [AV.shares] using e) h2
    exact ⟨cs, by rw [valOf_agg h4]; exact h1, h3⟩
  | .ptr i t p, v, hi, hr => by
    simp only [AV.ren, R] at hr ⊢
    obtain ⟨h1, h2, b, h3, h4⟩ := hr
    exact ⟨h.nx i h1, h2, b, (h.φ i h1).trans h3, h4⟩
  | .eptr i e j q, v, hi, hr => by
    simp only [AV.ren, R] at hr ⊢
    obtain ⟨h1, h2, b, n, cap, h3, h4, h5⟩ := hr
    exact ⟨h.nx i h1, h2, b, n, cap, (h.φ i h1).trans h3, h4, h5⟩
  | .sub i e a b, v, hi, hr => by
    simp only [AV.ren, R] at hr ⊢
    obtain ⟨h1, ad, n, cap, h3, h4⟩ := hr
    exact ⟨h.nx i h1, ad, n, cap, (h.φ i h1).trans h3, h4⟩
  | .tup vs, v, hi, hr => by
    simp only [AV.ren, R] at hr ⊢
    obtain ⟨arr, h1, h2⟩ := hr
    exact ⟨arr, h1, RC_ren h vs _ (hi.imp id fun e => by simpa [AV.shares] using e) h2⟩
  | .nilS, v, hi, hr => by simpa only [AV.ren, R] using hr
theorem RC_ren (h : Ren f g M M2) : ∀ (l : List AV) (vs : List Value), (Ren.Imm M M2 ∨ sharesL l = false) → RC M l vs → RC M2 (renL f l) vs
  | [], [], _, _ => by simp [renL, RC]
  | a :: l, v :: vs, hi, hr => by
    simp only [renL, RC] at hr ⊢
    refine ⟨R_ren h a v (hi.imp id fun e => ?_) hr.1, RC_ren h l vs (hi.imp id fun e => ?_) hr.2⟩
    · cases a <;> simp_all [sharesL, AV.shares]
    · cases a <;> simp_all [sharesL]
  | [], _ :: _, _, hr => by simp [RC] at hr
  | _ :: _, [], _, hr => by simp [RC] at hr
end

theorem OR_ren (h : Ren f g M M2) {id : Nat} (hid : id < M.nx) {ob : Ob} (hi : Ren.Imm M M2 ∨ ob.shares = false) (ho : OR M id ob) : OR M2 (f id) (ob.ren f) := by
  cases ob with
  | gone => trivial
  | box T t x =>
    obtain ⟨b, cur, h1, h2, h3, h4⟩ := ho
    exact ⟨b, cur, (h.φ id hid).trans h1, h.own b id (heap_lt h3) h2, by rw [h.w]; exact h3, (rep_ren h (hi.imp (fun h => h) fun e => by simpa [Ob.shares] using e) h4).1⟩
  | vec T e l =>
    obtain ⟨he, a, cap, h1, h2, h3, h4⟩ := ho
    refine ⟨he, a, cap, (h.φ id hid).trans h1, h2, h3, h4.imp (fun h => h) fun ⟨g', cur, css, m1, m2, m3, m4, m5, m6⟩ => ?_⟩
    refine ⟨g', cur, css, m1, h.own g' id (heap_lt m3) m2, by rw [h.w]; exact m3, m4, m5, repAll_mono (fun _ _ hr => ?_) m6⟩
    rcases hi with hi | hi
    · exact rep_pure (fun b hb ho => ⟨hi b hb ho, by rw [h.w]⟩) he hr
    · exact rep_scalar (by simpa [Ob.shares] using hi) hr
  | ibox t x =>
    have hi : Ren.Imm M M2 := hi.resolve_right (by simp [Ob.shares])
    obtain ⟨ht, b, cs, h1, h2, h3, h4, h5⟩ := ho
    exact ⟨ht, b, cs, (h.φ id hid).trans h1, by rw [h.w]; exact h2, hi b h2 h3, by rw [h.w]; exact h4, rep_pure (fun b hb ho => ⟨hi b hb ho, by rw [h.w]⟩) ht h5⟩
  | ivec e l =>
    have hi : Ren.Imm M M2 := hi.resolve_right (by simp [Ob.shares])
    obtain ⟨he, a, cap, h1, h2, h3, h4, h5⟩ := ho
    refine ⟨he, a, cap, (h.φ id hid).trans h1, h2, h3, h4, fun ad had => ?_⟩
    obtain ⟨g', css, m1, m2, m3, m4, m5⟩ := h5 ad had
    exact ⟨g', css, m1, by rw [h.w]; exact m2, hi g' m2 m3, by rw [h.w]; exact m4, repAll_mono (fun _ _ hr => rep_pure (fun b hb ho => ⟨hi b hb ho, by rw [h.w]⟩) he hr) m5⟩
  | map k e l => exact ho

theorem lkO_ren (hf : ∀ i, g (f i) = i) : ∀ (σ : Sto) (i : Nat), lkO (renSto f σ) (f i) = (lkO σ i).ren f
  | [], i => rfl
  | (j, ob) :: σ, i => by
    simp only [renSto]
    rw [lkO_cons, lkO_cons]
    by_cases h : i = j
    · subst h; rw [if_pos rfl, if_pos rfl]
    · rw [if_neg h, if_neg (fun e => h (by rw [← hf i, e, hf]))]
      exact lkO_ren hf σ i

theorem stoShares_lk : ∀ {σ : Sto}, stoShares σ = false → ∀ id, (lkO σ id).shares = false
  | [], _, _ => rfl
  | (j, ob) :: σ, h, id => by
    simp only [stoShares, Bool.or_eq_false_iff] at h
    rw [lkO_cons]
    split
    · exact h.1
    · exact stoShares_lk h.2 id

theorem lkO_ren_out {f : Nat → Nat} {id : Nat} (h : ∀ i, f i ≠ id) : ∀ σ : Sto, lkO (renSto f σ) id = .gone
  | [] => rfl
  | (j, ob) :: σ => by
    simp only [renSto]
    rw [lkO_cons, if_neg (fun e => h j e.symm)]
    exact lkO_ren_out h σ

theorem OS1_ren (h : Ren f g M M2) {σ : Sto} (hi : Ren.Imm M M2 ∨ stoShares σ = false) (ho : OS1 M σ) : OS1 M2 (renSto f σ) := by
  intro id
  by_cases hf : ∃ i, f i = id
  · obtain ⟨i, rfl⟩ := hf
    rw [lkO_ren h.gf]
    obtain ⟨h1, h2⟩ := ho i
    rcases h1 with h1 | h1
    · rw [h1]; exact ⟨.inl rfl, trivial⟩
    · exact ⟨.inr (h.nx _ h1), OR_ren h h1 (hi.imp (fun h => h) fun hs => stoShares_lk hs _) h2⟩
  · have := lkO_ren_out (f := f) (id := id) (fun i e => hf ⟨i, e⟩) σ
    rw [this]
    exact ⟨.inl rfl, trivial⟩

end

/-! ### Names that stand for the same -/

theorem swap_swap (a b i : Nat) : swap a b (swap a b i) = i := by
  have nb : ∀ x y : Nat, Nat.beq x y = decide (x = y) := fun x y => by
    rw [Bool.eq_iff_iff]; simp
  simp only [swap, nb]
  by_cases h1 : i = a
  · subst h1
    by_cases h2 : b = i
    · subst h2; simp
    · simp [h2]
  · by_cases h2 : i = b
    · subst h2; simp [h1]
    · simp [h1, h2]

theorem perm_append : ∀ (l m : List (Nat × Nat)) (i : Nat), perm (l ++ m) i = perm m (perm l i)
  | [], _, _ => rfl
  | (a, b) :: l, m, i => by simp only [List.cons_append, perm]; exact perm_append l m _

theorem perm_inv : ∀ (l : List (Nat × Nat)) (i : Nat), perm l.reverse (perm l i) = i
  | [], _ => rfl
  | (a, b) :: l, i => by
    simp only [List.reverse_cons, perm_append, perm]
    rw [perm_inv l, swap_swap]

theorem perm_inv' (l : List (Nat × Nat)) (i : Nat) : perm l (perm l.reverse i) = i := by
  have := perm_inv l.reverse i
  rwa [List.reverse_reverse] at this

/-- Names that are exchanged stand for the same value. -/
def PermOk (M : Mem) (l : List (Nat × Nat)) : Prop := ∀ x, M.φ (perm l x) = M.φ x ∧ (x < M.nx → perm l x < M.nx)

theorem PermOk.snoc {M : Mem} {l : List (Nat × Nat)} (h : PermOk M l) {i j : Nat} (hi : i < M.nx) (hj : j < M.nx) (he : M.φ i = M.φ j) : PermOk M (l ++ [(perm l j, i)]) := by
  intro x
  rw [perm_append]
  have nb : ∀ x y : Nat, Nat.beq x y = decide (x = y) := fun x y => by
    rw [Bool.eq_iff_iff]; simp
  obtain ⟨h1, h2⟩ := h x
  obtain ⟨h3, h4⟩ := h j
  simp only [perm, swap, nb]
  by_cases e1 : perm l x = perm l j
  · simp only [e1, decide_true, cond_true]
    exact ⟨by rw [← h1, e1, h3, he], fun _ => hi⟩
  · by_cases e2 : perm l x = i
    · simp only [e1, e2, decide_true, decide_false, cond_true, cond_false]
      rw [show (decide (i = perm l j)) = false by rw [← e2]; simpa using e1]
      simp only [cond_false]
      exact ⟨by rw [h3, ← he, ← e2, h1], fun _ => h4 hj⟩
    · simp only [e1, e2, decide_false, cond_false]
      exact ⟨h1, h2⟩

theorem pairUp_ok {M1 M : Mem} (hφ : ∀ i, i < M1.nx → M.φ i = M1.φ i) (hnx : M1.nx ≤ M.nx) : ∀ (as bs : List AV) (vs : List Value) (acc pr : List (Nat × Nat)), RC M1 as vs → RC M bs vs → PermOk M acc → pairUp as bs acc = some pr → PermOk M pr
  | [], [], _, acc, pr, _, _, h, e => by simp only [pairUp, Option.some.injEq] at e; subst e; exact h
  | [], _ :: _, _, _, _, _, _, _, e => by simp [pairUp] at e
  | a :: as, [], _, _, _, _, _, _, e => by simp [pairUp] at e
  | a :: as, b :: bs, [], _, _, h1, _, _, _ => by simp [RC] at h1
  | a :: as, b :: bs, v :: vs, acc, pr, h1, h2, h, e => by
    simp only [RC] at h1 h2
    by_cases ha : ∃ i x, a = .d (.ref i) x
    · obtain ⟨i, x, rfl⟩ := ha
      simp only [pairUp] at e
      split at e
      · rename_i j y
        refine pairUp_ok hφ hnx as bs vs _ pr h1.2 h2.2 (h.snoc ?_ ?_ ?_) e
        · have := h1.1; simp only [R, rep] at this; obtain ⟨_, _, h, _⟩ := this; exact Nat.lt_of_lt_of_le h hnx
        · have := h2.1; simp only [R, rep] at this; obtain ⟨_, _, h, _⟩ := this; exact h
        · have k1 := h1.1
          have k2 := h2.1
          simp only [R, rep] at k1 k2
          obtain ⟨_, e1, l1, rfl, _⟩ := k1
          obtain ⟨_, e2, _, rfl, _⟩ := k2
          rw [hφ i l1]
          have e1 : v = M1.φ i := e1
          have e2 : v = M.φ j := e2
          rw [← e1, e2]
      · cases e
    · have e' : pairUp (a :: as) (b :: bs) acc = pairUp as bs acc := by
        cases a <;> try rfl
        rename_i t x
        cases t <;> first | rfl | exact absurd ⟨_, _, rfl⟩ ha
      rw [e'] at e
      exact pairUp_ok hφ hnx as bs vs acc pr h1.2 h2.2 h e

/-! ### The callee's view -/

def Mem.callee (M : Mem) (H ps : List Nat) : Mem := { M with own := fun b => match M.own b with
  | .atl id => bif memN id H then .imm else bif memN id ps then .atl id else .alien
  | l => l }

theorem callee_sees (M : Mem) (H ps : List Nat) : Sees M (M.callee H ps) H := by
  intro b _ h
  rcases h with h | ⟨id, h1, h2⟩
  · exact ⟨by simp [Mem.callee, h], rfl⟩
  · exact ⟨by simp [Mem.callee, h2, memN_iff.2 h1], rfl⟩

theorem callee_le (M : Mem) (H ps : List Nat) : M.le (M.callee H ps) := ⟨Nat.le_refl _, fun _ _ => rfl, fun b _ h => ⟨by simp [Mem.callee, h], rfl⟩⟩

theorem lkO_restr (σ : Sto) (id : Nat) : ∀ (l : List Nat), lkO (restr σ l) id = if id ∈ l then lkO σ id else .gone
  | [] => rfl
  | i :: l => by
    simp only [restr]
    rw [lkO_cons, lkO_restr σ id l]
    by_cases h : id = i
    · subst h; simp
    · simp [h]

theorem lkO_goneAll (σ : Sto) (id : Nat) : ∀ (l : List Nat), lkO (goneAll σ l) id = if id ∈ l then .gone else lkO σ id
  | [] => rfl
  | i :: l => by
    simp only [goneAll]
    rw [lkO_cons, lkO_goneAll σ id l]
    by_cases h : id = i
    · subst h; simp
    · simp [h]

theorem lkO_app (σ : Sto) (id : Nat) : ∀ (σ' : Sto), (lkO (σ' ++ σ) id = lkO σ' id ∧ ∃ ob, (id, ob) ∈ σ') ∨ ((∀ ob, (id, ob) ∉ σ') ∧ lkO (σ' ++ σ) id = lkO σ id)
  | [] => .inr ⟨by simp, rfl⟩
  | (j, ob) :: σ' => by
    rw [List.cons_append, lkO_cons, lkO_cons]
    by_cases h : id = j
    · subst h; exact .inl ⟨by simp, ob, by simp⟩
    · rw [if_neg h, if_neg h]
      rcases lkO_app σ id σ' with ⟨h1, ob', h2⟩ | ⟨h1, h2⟩
      · exact .inl ⟨h1, ob', by simp [h2]⟩
      · exact .inr ⟨fun ob' => by simp [h, h1 ob'], h2⟩

theorem stoNew_mem {nx : Nat} {l : List Nat} : ∀ {σ : Sto}, stoNew nx l σ = true → ∀ {id : Nat} {ob : Ob}, (id, ob) ∈ σ → nx ≤ id ∨ id ∈ l
  | [], _, _, _, h => by simp at h
  | (j, ob') :: σ, h, id, ob, hm => by
    simp only [stoNew, Bool.and_eq_true, Bool.or_eq_true, Nat.ble_eq, memN_iff] at h
    rcases List.mem_cons.1 hm with hm | hm
    · cases hm; exact h.1
    · exact stoNew_mem h.2 hm

theorem disj_mem : ∀ {l m : List Nat}, disj l m = true → ∀ i, i ∈ l → i ∉ m
  | [], _, _, _, h => by simp at h
  | j :: l, m, h, i, hi => by
    simp only [disj, Bool.and_eq_true, Bool.not_eq_true'] at h
    rcases List.mem_cons.1 hi with rfl | hi
    · intro hm; have := memN_iff.2 hm; rw [h.1] at this; cases this
    · exact disj_mem h.2 i hi

section
variable {P : Program} {C : Ctx} {N : Nat} {w0 : Entry} {M : Mem} {s : St} {a : Act} {quiet : Bool} {o : Oper} {R' : Type} {k : St → Option R'} {r : R'}
  {K : Act → World → Prop} {Q : Exit → Act → World → Prop}

theorem callee_os {σ : Sto} (hO : OS1 M σ) {H ps : List Nat} (hd : disj H ps = true) : OS1 (M.callee H ps) (restr σ ps) := by
  intro id
  rw [lkO_restr]
  by_cases h : id ∈ ps
  · rw [if_pos h]
    obtain ⟨h1, h2⟩ := hO id
    refine ⟨h1, ?_⟩
    rcases h1 with h1 | h1
    · rw [h1]; trivial
    · refine OR_keep (callee_le M H ps) h1 (fun b _ hb => ⟨?_, rfl⟩) h2
      have hn : memN id H = false := by rw [← Bool.not_eq_true, memN_iff]; exact fun e => disj_mem hd id e h
      simp [Mem.callee, hb, hn, memN_iff.2 h]
  · rw [if_neg h]; exact ⟨.inl rfl, trivial⟩

theorem argV_ok (hC : CtxOk0 P C) {σ : Sto} (hO : OS1 M σ) {M' : Mem} (hle : M.le M') {T : TypeId} {raw : Bool} {av av' : AV} {v : Value} {l : List Nat} (h : argV C σ T raw av = some (av', l)) (hs : Sees M M' (hot σ l)) (hR : R M av v) : R M' av' v := by
  unfold argV at h
  cases raw <;> simp only [cond_true, cond_false] at h
  · split at h
    · simp only [R] at hR
      cases hT : C.ty T with
      | none => simp [hT] at h
      | some t =>
        cases t <;> simp only [hT] at h <;> try (cases h; done)
        rename_i q e
        cases he : e.pure <;> simp only [he, cond_true, cond_false] at h
        · cases h
        cases h
        subst hR
        simp only [R, rep]
        exact ⟨[.slice none 0 0], rfl, he, none, 0, rfl, Nat.le_refl _, Nat.zero_le _, by omega, by omega, by omega, fun hn => absurd rfl hn⟩
    · cases hv : viewA σ av with
      | none => simp [hv] at h
      | some z =>
        simp only [hv, Option.some.injEq, Prod.mk.injEq] at h
        obtain ⟨rfl, rfl⟩ := h
        obtain ⟨cs, h1, _, h2⟩ := viewA_ok hO hs hv hR
        simp only [Dat.av, R]
        exact ⟨cs, h1, h2⟩
  · cases h
    exact R_mono hle _ _ hR

theorem argVs_ok (hC : CtxOk0 P C) {σ : Sto} (hO : OS1 M σ) {M' : Mem} (hle : M.le M') : ∀ (as : List AV) (Ts : List TypeId) (ms : List Bool) (vs : List AV) (l : List Nat) (vals : List Value), argVs C σ as Ts ms = some (vs, l) → Sees M M' (hot σ l) → RC M as vals → RC M' vs vals
  | [], _, _, vs, l, [], h, _, _ => by simp only [argVs, Option.some.injEq, Prod.mk.injEq] at h; obtain ⟨rfl, rfl⟩ := h; simp [RC]
  | [], _, _, _, _, _ :: _, _, _, hr => by simp [RC] at hr
  | _ :: _, _, _, _, _, [], _, _, hr => by simp [RC] at hr
  | _ :: _, [], _, _, _, _, h, _, _ => by simp [argVs] at h
  | _ :: _, _ :: _, [], _, _, _, h, _, _ => by simp [argVs] at h
  | av :: as, T :: Ts, m :: ms, vs, l, v :: vals, h, hs, hr => by
    simp only [argVs] at h
    cases h1 : argV C σ T m av with
    | none => simp [h1] at h
    | some p =>
    obtain ⟨x, r1⟩ := p
    cases h2 : argVs C σ as Ts ms with
    | none => simp [h1, h2] at h
    | some q =>
    obtain ⟨xs, r2⟩ := q
    simp only [h1, h2, Option.some.injEq, Prod.mk.injEq] at h
    obtain ⟨rfl, rfl⟩ := h
    simp only [RC] at hr ⊢
    exact ⟨argV_ok hC hO hle h1 (hs.sub fun j hj => by rw [mem_hot] at hj ⊢; exact ⟨List.mem_append_left _ hj.1, hj.2⟩) hr.1,
      argVs_ok hC hO hle as Ts ms xs r2 vals h2 (hs.sub fun j hj => by rw [mem_hot] at hj ⊢; exact ⟨List.mem_append_right _ hj.1, hj.2⟩) hr.2⟩

theorem RC_raws : ∀ (ms : List Bool) (l : List AV) (vs : List Value), RC M l vs → RC M (raws ms l) (rawV ms vs)
  | [], l, vs, h => by cases l <;> cases vs <;> simp [raws, rawV, RC]
  | m :: ms, [], [], _ => by simp [raws, rawV, RC]
  | m :: ms, [], _ :: _, h => by simp [RC] at h
  | m :: ms, _ :: _, [], h => by simp [RC] at h
  | m :: ms, x :: l, v :: vs, h => by
    simp only [RC] at h
    cases m <;> simp only [raws, rawV, cond_true, cond_false]
    · exact RC_raws ms l vs h.2
    · simp only [RC]; exact ⟨h.1, RC_raws ms l vs h.2⟩

theorem RC_append : ∀ {as bs : List AV} {vs us : List Value}, RC M as vs → RC M bs us → RC M (as ++ bs) (vs ++ us)
  | [], _, [], _, _, h => h
  | [], _, _ :: _, _, h, _ => by simp [RC] at h
  | _ :: _, _, [], _, h, _ => by simp [RC] at h
  | a :: as, _, v :: vs, _, h, h' => by
    simp only [RC, List.cons_append] at h ⊢
    exact ⟨h.1, RC_append h.2 h'⟩

theorem RC_evs (hI : Inv N w0 M s a) : ∀ (xs : List Operand), RC M (xs.map (ev s)) (xs.map a.eval)
  | [] => by simp [RC]
  | x :: xs => by simp only [List.map_cons, RC]; exact ⟨R_ev hI x, RC_evs hI xs⟩

theorem capsL_ok : ∀ {t : Ty} {x : t.den} {cs : List Value} {l : List AV}, capsL t x = some l → rep M t cs x → RC M l cs := by
  intro t
  induction t with
  | nil => intro x cs l h hr; simp only [capsL, Option.some.injEq] at h; subst h; simp only [rep] at hr; subst hr; simp [RC]
  | cons a b _ ihb =>
    intro x cs l h hr
    simp only [capsL] at h
    cases ha : a.isAgg <;> simp only [ha, cond_true, cond_false] at h
    · cases hb : capsL b x.2 with
      | none => simp [hb] at h
      | some l' =>
        simp only [hb, Option.some.injEq] at h
        subst h
        simp only [rep] at hr
        obtain ⟨c1, c2, rfl, h1, h2⟩ := hr
        have hl := rep_length h1
        have h1' : a.size = 1 := by cases a <;> simp_all [Ty.isAgg, Ty.size]
        rw [h1'] at hl
        obtain ⟨v, rfl⟩ := List.length_eq_one_iff.1 hl
        simp only [List.cons_append, List.nil_append, RC, R]
        exact ⟨⟨[v], by simp [valOf, ha], h1⟩, ihb hb h2⟩
    · cases h
  | _ => intro x cs l h; simp [capsL] at h

/-! ### Back from a call -/

def Lab.ren (f : Nat → Nat) : Lab → Lab
  | .atl id => .atl (f id)
  | l => l

def Mem.back (M1 M' : Mem) (ps : List Nat) (f : Nat → Nat) : Mem where
  φ := M'.φ
  nx := M'.nx
  own := fun b => if b < M1.w.heap.size then (match M1.own b with
    | .atl id => bif memN id ps then (M'.own b).ren f else .atl id
    | l => l) else (M'.own b).ren f
  w := M'.w

/-- How the caller's memory stands to what the callee saw. -/
structure Base (M1 Mc : Mem) (ps : List Nat) : Prop where
  w : Mc.w = M1.w
  nx : Mc.nx = M1.nx
  φ : Mc.φ = M1.φ
  imm : ∀ b, M1.own b = .imm → Mc.own b = .imm
  alien : ∀ b, M1.own b = .alien → Mc.own b = .alien
  out : ∀ b id, M1.own b = .atl id → id ∉ ps → Mc.own b = .imm ∨ Mc.own b = .alien

theorem base_self (M : Mem) (H ps : List Nat) : Base M (M.callee H ps) ps :=
  ⟨rfl, rfl, rfl, fun b h => by simp [Mem.callee, h], fun b h => by simp [Mem.callee, h], fun b id h hn => by
    have hp : memN id ps = false := by rw [← Bool.not_eq_true, memN_iff]; exact hn
    simp only [Mem.callee, h]
    cases memN id H <;> simp [hp]⟩

theorem base_frz (M : Mem) (H ps : List Nat) : Base (M.frz H) (M.callee H ps) ps :=
  ⟨rfl, rfl, rfl, fun b h => by
      simp only [Mem.frz, Mem.callee] at h ⊢
      cases hb : M.own b with
      | imm => simp
      | alien => simp [hb] at h
      | atl id => simp only [hb] at h ⊢; cases hm : memN id H <;> simp_all,
    fun b h => by
      simp only [Mem.frz, Mem.callee] at h ⊢
      cases hb : M.own b with
      | imm => simp [hb] at h
      | alien => simp
      | atl id => simp only [hb] at h; cases hm : memN id H <;> simp_all,
    fun b id h hn => by
      have hp : memN id ps = false := by rw [← Bool.not_eq_true, memN_iff]; exact hn
      simp only [Mem.frz, Mem.callee] at h ⊢
      cases hb : M.own b with
      | imm => simp [hb] at h
      | alien => simp [hb] at h
      | atl id' => simp only [hb] at h ⊢; cases hm : memN id' H <;> simp_all⟩

section
variable {M1 Mc M' : Mem} {ps : List Nat}

theorem back_turn (hB : Base M1 Mc ps) (hF : Go.Lift.Frame Mc.w Mc.own M'.w M'.own) (hφ : ∀ i, i < Mc.nx → M'.φ i = Mc.φ i) (hnx : Mc.nx ≤ M'.nx) (f : Nat → Nat) : Turn M1 (M1.back M' ps f) (· ∈ ps) := by
  have hw := hB.w
  refine ⟨⟨by rw [← hB.nx]; exact hnx, fun i hi => by rw [← hB.φ]; exact hφ i (by rw [hB.nx]; exact hi), fun b hb h => ?_⟩, ⟨by rw [← hw]; exact hF.os, by rw [← hw]; exact hF.tape, by rw [← hw]; exact hF.output, by rw [← hw]; exact hF.size, fun b hb h => ?_⟩, fun b hb id h hx => ?_⟩
  · obtain ⟨h1, _⟩ := hF.block b (by rw [hw]; exact hb) (.inl (hB.imm b h))
    exact ⟨by simp [Mem.back, hb, h], by rw [← hw]; exact h1⟩
  · obtain ⟨h1, _⟩ := hF.block b (by rw [hw]; exact hb) (h.imp (hB.imm b) (hB.alien b))
    refine ⟨by rw [← hw]; exact h1, ?_⟩
    rcases h with h | h <;> simp [Mem.back, hb, h]
  · obtain ⟨h1, _⟩ := hF.block b (by rw [hw]; exact hb) (hB.out b id h hx)
    have hp : memN id ps = false := by rw [← Bool.not_eq_true, memN_iff]; exact hx
    exact ⟨by simp [Mem.back, hb, h, hp], by rw [← hw]; exact h1⟩

theorem back_ren (hB : Base M1 Mc ps) (hF : Go.Lift.Frame Mc.w Mc.own M'.w M'.own) {l : List (Nat × Nat)} (hl : PermOk M' l) : Ren (perm l) (perm l.reverse) M' (M1.back M' ps (perm l)) := by
  refine ⟨perm_inv l, fun i hi => (hl i).2 hi, fun i _ => (hl i).1, rfl, fun b id hb h => ?_⟩
  simp only [Mem.back]
  by_cases hlt : b < M1.w.heap.size
  · rw [if_pos hlt]
    have key : ¬ (Mc.own b = .imm ∨ Mc.own b = .alien) := fun e => by
      obtain ⟨_, h2⟩ := hF.block b (by rw [hB.w]; exact hlt) e
      rw [h] at h2
      rcases e with e | e <;> rw [e] at h2 <;> cases h2
    cases hm : M1.own b with
    | imm => exact absurd (.inl (hB.imm b hm)) key
    | alien => exact absurd (.inr (hB.alien b hm)) key
    | atl id0 =>
      simp only
      cases hp : memN id0 ps
      · exact absurd (hB.out b id0 hm (fun e => by rw [memN_iff.2 e] at hp; cases hp)) key
      · simp [h, Lab.ren]
  · rw [if_neg hlt]; simp [h, Lab.ren]

theorem back_imm (hB : Base M1 Mc ps) (hF : Go.Lift.Frame Mc.w Mc.own M'.w M'.own) (hz : ∀ b, Mc.own b = .imm → M1.own b = .imm) (f : Nat → Nat) : Ren.Imm M' (M1.back M' ps f) := by
  intro b hb h
  simp only [Mem.back]
  by_cases hlt : b < M1.w.heap.size
  · rw [if_pos hlt]
    cases hm : M1.own b with
    | imm => rfl
    | alien =>
      obtain ⟨_, h2⟩ := hF.block b (by rw [hB.w]; exact hlt) (.inr (hB.alien b hm))
      rw [h, hB.alien b hm] at h2; cases h2
    | atl id0 =>
      simp only
      cases hp : memN id0 ps
      · have hout := hB.out b id0 hm (fun e => by rw [memN_iff.2 e] at hp; cases hp)
        obtain ⟨_, h2⟩ := hF.block b (by rw [hB.w]; exact hlt) hout
        rw [h] at h2
        have := hz b h2.symm
        rw [hm] at this; cases this
      · simp [h, Lab.ren]
  · rw [if_neg hlt]; simp [h, Lab.ren]

theorem back_inv {s1 : St} (hI : Inv N w0 M1 s1 a) (hB : Base M1 Mc ps) (hF : Go.Lift.Frame Mc.w Mc.own M'.w M'.own) (hφ : ∀ i, i < Mc.nx → M'.φ i = Mc.φ i) (hnx : Mc.nx ≤ M'.nx) {l : List (Nat × Nat)} (hl : PermOk M' l) {res : AV} {v : Value} {σ' : Sto}
    (hR : R M' res v) (hO : OS1 M' σ') (hz : (∀ b, Mc.own b = .imm → M1.own b = .imm) ∨ (res.shares = false ∧ stoShares σ' = false)) (hd : ∀ d, o.dst = some d → d < N) :
    Inv N w0 (M1.back M' ps (perm l)) (({ s1 with σ := renSto (perm l) σ' ++ goneAll s1.σ ps, nx := M'.nx } : St).put o.dst (res.ren (perm l))) (a.put o.dst v) := by
  have hT := back_turn hB hF hφ hnx (perm l)
  have hren := back_ren hB hF hl
  have hi : Ren.Imm M' (M1.back M' ps (perm l)) ∨ (res.shares = false ∧ stoShares σ' = false) := hz.imp (fun h => back_imm hB hF h _) id
  have hO2 := OS1_ren hren (hi.imp id fun h => h.2) hO
  have hI' := hI.to hT (σ' := renSto (perm l) σ' ++ goneAll s1.σ ps) (nx' := M'.nx) rfl (fun id => by
    rcases lkO_app (goneAll s1.σ ps) id (renSto (perm l) σ') with ⟨h1, _⟩ | ⟨_, h1⟩
    · rw [h1]; exact .inr (hO2 id)
    · rw [h1, lkO_goneAll]
      by_cases h : id ∈ ps
      · rw [if_pos h]; exact .inr ⟨.inl rfl, trivial⟩
      · rw [if_neg h]; exact .inl ⟨rfl, h⟩)
  exact hI'.put hd (R_ren hren res v (hi.imp id fun h => h.1) hR)

end

structure CtxOk (P : Program) (C : Ctx) : Prop extends CtxOk0 P C where
  mixed : P.follows .mixedOrders = true
  fns : ∀ p, p ∈ C.fns → SoundF P p.1 p.2

theorem findFun_mem {g : FuncId} {as : List AV} {σ : Sto} {F : Fun} : ∀ {l : List (FuncId × Fun)}, findFun l g as σ = some F → (g, F) ∈ l
  | [], h => by simp [findFun] at h
  | (m, F') :: l, h => by
    simp only [findFun] at h
    cases hc : Nat.beq m g && F'.fits as σ <;> simp only [hc, cond_true, cond_false] at h
    · exact List.mem_cons_of_mem _ (findFun_mem h)
    · simp only [Bool.and_eq_true] at hc
      cases h
      rw [Nat.eq_of_beq_eq_true hc.1]
      exact List.mem_cons_self

theorem step_call (hC : CtxOk P C) (hI : Inv N w0 M s a) (hd : ∀ d, o.dst = some d → d < N) (hg : Goes N w0 quiet o s M k r K) {f : Operand} {args : Array Operand} {Ts : Array TypeId} (ho : o.op = .call { callee := .value f, args := args, argTypes := Ts })
    (hs : stepOp C quiet o s k = some r) : o.wp P a M.w K Q := by
  unfold stepOp at hs
  simp only [ho] at hs
  cases hf : ev s f <;> simp only [hf] at hs <;> try (cases hs; done)
  rename_i t x
  cases t <;> simp only at hs <;> try (cases hs; done)
  rename_i g c
  cases hcs : capsL c x with
  | none => simp [hcs] at hs
  | some cs =>
  simp only [hcs] at hs
  cases hF : findFun C.fns g (args.toList.map (ev s) ++ cs) s.σ with
  | none => simp [hF] at hs
  | some F =>
  simp only [hF] at hs
  have hRf := R_ev hI f
  rw [hf] at hRf
  simp only [R, rep] at hRf
  obtain ⟨_, hfv, arr, rfl, hcaps⟩ := hRf
  have hfv : a.eval f = .func (.func g) #[] arr := hfv
  have hall := RC_append (RC_evs hI args.toList) (capsL_ok hcs hcaps)
  have hvals : (args.toList.map a.eval ++ arr.toList).toArray = args.map a.eval ++ arr := by
    apply Array.ext'
    simp
  have hexec : (execOp a.eval o).run P M.w = (callFunc g (args.map a.eval ++ arr)).run P M.w := by
    simp only [execOp, ho, resolve, hfv, Deferred.ofValue, Sem.run_bind, Sem.run_pure, Result.andThen_ok, invoke, Array.empty_append]
  generalize args.toList.map (ev s) ++ cs = as at hs hall
  generalize args.toList.map a.eval ++ arr.toList = vals at hall hvals
  unfold callFn at hs
  cases hav : argVs C s.σ as (Ts.toList ++ cs.map fun _ => 0) F.modes with
  | none => simp [hav] at hs
  | some p =>
  obtain ⟨vs, lent⟩ := p
  simp only [hav] at hs
  obtain ⟨ps, hps⟩ : ∃ ps, ps = passed s.σ as F.modes := ⟨_, rfl⟩
  rw [← hps] at hs
  cases hdj : disj (hot s.σ lent) ps && (!quiet || Nat.beq ps.length 0) <;> simp only [hdj, cond_true, cond_false] at hs
  · cases hs
  simp only [Bool.and_eq_true, Bool.or_eq_true, Bool.not_eq_true'] at hdj
  obtain ⟨hdj, hqp⟩ := hdj
  have hnx := hI.holds.nx
  obtain ⟨H, hH⟩ : ∃ H, H = hot s.σ lent := ⟨_, rfl⟩
  rw [← hH] at hs hdj
  have hargs := argVs_ok hC.toCtxOk0 hI.holds.objs (callee_le M H ps) as _ F.modes vs lent vals hav (by rw [← hH]; exact callee_sees M H ps) hall
  obtain ⟨res, as', σ', nx', h1, h2⟩ := hC.fns _ (findFun_mem hF) (M.callee H ps) vs (restr s.σ ps) vals R' _ r hargs (callee_os hI.holds.objs hdj) (by rw [show (M.callee H ps).nx = s.nx from hnx]; exact hs)
  cases hpu : pairUp (raws F.modes vs) as' [] with
  | none => simp [hpu] at h1
  | some pr =>
  simp only [hpu] at h1
  cases hsn : stoNew s.nx ps (renSto (perm pr) σ') && Nat.ble s.nx nx' <;> simp only [hsn, cond_true, cond_false] at h1
  · cases h1
  simp only [Bool.and_eq_true, Nat.ble_eq] at hsn
  obtain ⟨hsn, hle⟩ := hsn
  have fin : ∀ v w', After (M.callee H ps) F.modes vals res as' σ' nx' v w' → K (a.put o.dst v) w' := by
    rintro v w' ⟨M', rfl, rfl, hφ, hFr, hR, hRC, hOS⟩
    have hnx' : (M.callee H ps).nx ≤ M'.nx := by rw [show (M.callee H ps).nx = s.nx from hnx]; exact hle
    have hl : PermOk M' pr := pairUp_ok hφ hnx' _ _ _ _ _ (RC_raws F.modes vs vals hargs) hRC (fun x => ⟨rfl, fun h => by simpa [perm] using h⟩) hpu
    cases hsh : (res.shares || stoShares σ') && !Nat.beq H.length 0 <;> simp only [hsh, cond_true, cond_false] at h1
    · have hB := base_self M H ps
      have hz : (∀ b, (M.callee H ps).own b = .imm → M.own b = .imm) ∨ (res.shares = false ∧ stoShares σ' = false) := by
        rw [Bool.and_eq_false_iff] at hsh
        rcases hsh with e | e
        · rw [Bool.or_eq_false_iff] at e; exact .inr e
        · left
          have e : H = [] := List.eq_nil_of_length_eq_zero (Nat.eq_of_beq_eq_true (by simpa using e))
          intro b hb
          simp only [Mem.callee, e] at hb
          cases hm : M.own b with
          | imm => rfl
          | alien => rw [hm] at hb; cases hb
          | atl id => rw [hm] at hb; simp only [memN, cond_false] at hb; cases hp : memN id ps <;> simp [hp] at hb
      refine hg _ (M.back M' ps (perm pr)) _ h1 (back_inv hI hB hFr hφ hnx' hl hR hOS hz hd) (fun hq => ?_)
      have hps0 : ps = [] := by
        rcases hqp with e | e
        · rw [hq] at e; cases e
        · exact List.eq_nil_of_length_eq_zero (Nat.eq_of_beq_eq_true e)
      have hput : ∀ (st : St) (d : Option Tmp) (av : AV), (st.put d av).σ = st.σ ∧ (st.put d av).args = st.args := fun st d av => by cases d <;> exact ⟨rfl, rfl⟩
      refine ⟨fun j hj => lk_put_ne hj, (back_turn hB hFr hφ hnx' _).le, (hput _ _ _).2, fun b hb => ?_⟩
      · have hout : (M.callee H ps).own b = .imm ∨ (M.callee H ps).own b = .alien := by
          cases hm : M.own b with
          | imm => exact .inl (hB.imm b hm)
          | alien => exact .inr (hB.alien b hm)
          | atl id => exact hB.out b id hm (by rw [hps0]; simp)
        obtain ⟨k1, _⟩ := hFr.block b hb hout
        refine ⟨k1, .inl ?_⟩
        simp only [Mem.back, if_pos hb, hps0, memN, cond_false]
        cases M.own b <;> rfl
    · · cases hfz : s.frz lent with
        | none => simp [hfz] at h1
        | some s1 =>
          simp only [hfz] at h1
          have hfe := (frz_holds hI.holds hfz).2
          have hI1 := frz_inv hI hfz
          rw [← hH] at hI1
          have hB := base_frz M H ps
          refine hg _ ((M.frz H).back M' ps (perm pr)) _ h1 (back_inv hI1 hB hFr hφ hnx' hl hR hOS (.inl fun b hb => ?_) hd) (fun hq => ?_)
          · simp only [Mem.callee, Mem.frz] at hb ⊢
            cases hm : M.own b with
            | imm => rfl
            | alien => rw [hm] at hb; cases hb
            | atl id => rw [hm] at hb; simp only at hb ⊢; cases hH' : memN id H <;> cases hp : memN id ps <;> simp [hH', hp] at hb ⊢
          · have hps0 : ps = [] := by
              rcases hqp with e | e
              · rw [hq] at e; cases e
              · exact List.eq_nil_of_length_eq_zero (Nat.eq_of_beq_eq_true e)
            have hput : ∀ (st : St) (d : Option Tmp) (av : AV), (st.put d av).σ = st.σ ∧ (st.put d av).args = st.args := fun st d av => by cases d <;> exact ⟨rfl, rfl⟩
            refine ⟨fun j hj => ?_, (frz_turn M H).le.trans (back_turn hB hFr hφ hnx' _).le, ?_, fun b hb => ?_⟩
            · rw [lk_put_ne hj]
              show lk s1.env j = _
              rw [hfe.1]
            · rw [(hput _ _ _).2]
              exact hfe.2.1
            · have hB0 := base_self M H ps
              have hout : (M.callee H ps).own b = .imm ∨ (M.callee H ps).own b = .alien := by
                cases hm : M.own b with
                | imm => exact .inl (hB0.imm b hm)
                | alien => exact .inr (hB0.alien b hm)
                | atl id => exact hB0.out b id hm (by rw [hps0]; simp)
              obtain ⟨k1, _⟩ := hFr.block b hb hout
              refine ⟨k1, ?_⟩
              have hb' : b < (M.frz H).w.heap.size := hb
              have e : ((M.frz H).back M' ps (perm pr)).own b = (M.frz H).own b := by
                simp only [Mem.back, if_pos hb', hps0, memN, cond_false]
                cases (M.frz H).own b <;> rfl
              rw [e]
              simp only [Mem.frz]
              cases hm : M.own b with
              | imm => exact .inl rfl
              | alien => exact .inl rfl
              | atl id =>
                simp only
                cases memN id H
                · exact .inl rfl
                · exact .inr ⟨rfl, id, rfl⟩
  rw [hvals] at h2
  unfold Oper.wp
  rw [hexec]
  rcases h2 with ⟨v, w', hr, hp⟩ | ⟨hr, hcall⟩
  · have hr : (callFunc g (args.map a.eval ++ arr)).run P M.w = .ok (.value v) w' := hr
    rw [hr, Oper.upon_value]
    exact fin v w' hp
  · have hr : (callFunc g (args.map a.eval ++ arr)).run P M.w = .ok (.enter g (args.map a.eval ++ arr)) M.w := hr
    rw [hr, Oper.upon_enter]
    refine hcall.mono fun e w' he => ?_
    obtain ⟨v, rfl, hp⟩ := he
    exact fin v w' hp

end
end Go.Lift
