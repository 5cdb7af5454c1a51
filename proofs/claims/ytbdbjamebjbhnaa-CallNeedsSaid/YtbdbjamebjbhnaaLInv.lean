import Derived.Test.YtbdbjamebjbhnaaLRep
set_option linter.all false
/- PATHS; VALUES; OBJECTS; THE INVARIANT. -/
namespace Go.Lift

def fldT : Ty → Nat → Option Ty
  | .cons a _, 0 => some a
  | .cons _ b, k + 1 => fldT b k
  | _, _ => none

def fldOff : Ty → Nat → Nat
  | .cons _ _, 0 => 0
  | .cons a b, k + 1 => a.size + fldOff b k
  | _, _ => 0

def Ty.off : Ty → List Stp → Nat
  | _, [] => 0
  | t, .fld k :: p => match fldT t k with
    | some u => fldOff t k + u.off p
    | none => 0
  | t, .idx i :: p => match t with
    | .arr _ e => i * e.size + e.off p
    | _ => 0

def Ty.pathOk : Ty → List Stp → Prop
  | _, [] => True
  | t, .fld k :: p => match fldT t k with
    | some u => u.pathOk p
    | none => False
  | t, .idx i :: p => match t with
    | .arr n e => i < n ∧ e.pathOk p
    | _ => False

def Ty.sub : Ty → List Stp → Option Ty
  | t, [] => some t
  | t, .fld k :: p => match fldT t k with
    | some u => u.sub p
    | none => none
  | t, .idx _ :: p => match t with
    | .arr _ e => e.sub p
    | _ => none


theorem fldD_t : ∀ {t : Ty} {x : t.den} {k : Nat} {z : Dat}, fldD t x k = some z → fldT t k = some z.t := by
  intro t
  induction t with
  | cons a b iha ihb =>
    intro x k z h
    cases k with
    | zero => simp only [fldD, Option.some.injEq] at h; subst h; rfl
    | succ k => simp only [fldD] at h; simpa only [fldT] using ihb h
  | _ => intro x k z h; simp [fldD] at h

theorem fldD_some {t : Ty} (x : t.den) {k : Nat} {u : Ty} (h : fldT t k = some u) : ∃ z, fldD t x k = some z ∧ z.t = u := by
  induction t generalizing k with
  | cons a b iha ihb => cases k with
    | zero => simp only [fldT, Option.some.injEq] at h; exact ⟨_, rfl, h⟩
    | succ k => simp only [fldT] at h; exact ihb x.2 h
  | _ => simp [fldT] at h

theorem fldOff_le : ∀ {t : Ty} {k : Nat} {u : Ty}, fldT t k = some u → fldOff t k + u.size ≤ t.size := by
  intro t
  induction t with
  | cons a b iha ihb =>
    intro k u h
    cases k with
    | zero => simp only [fldT, Option.some.injEq] at h; subst h; simp [fldOff, Ty.size]
    | succ k => simp only [fldT] at h; have := ihb h; simp only [fldOff, Ty.size]; omega
  | _ => intro k u h; simp [fldT] at h

theorem rep_fld {M : Mem} : ∀ {t : Ty} {cs : List Value} {x : t.den} {k : Nat} {z : Dat}, rep M t cs x → fldD t x k = some z →
    rep M z.t ((cs.drop (fldOff t k)).take z.t.size) z.x := by
  intro t
  induction t with
  | cons a b iha ihb =>
    intro cs x k z h hz
    simp only [rep] at h
    obtain ⟨c1, c2, rfl, h1, h2⟩ := h
    cases k with
    | zero =>
      simp only [fldD, Option.some.injEq] at hz
      subst hz
      simpa [fldOff, ← rep_length h1] using h1
    | succ k =>
      simp only [fldD] at hz
      have := ihb h2 hz
      simp only [fldOff, ← rep_length h1]
      rw [List.drop_append, List.drop_eq_nil_of_le (by omega)]
      simpa using this
  | _ => intro cs x k z h hz; simp [fldD] at hz

theorem elemD_t {t : Ty} {x : t.den} {i : Nat} {z : Dat} (h : elemD t x i = some z) : ∃ n, t = .arr n z.t := by
  cases t <;> simp only [elemD] at h <;> first | (cases h; done) | skip
  simp only [Option.some.injEq] at h
  subst h
  exact ⟨_, rfl⟩

theorem get_sub : ∀ (q : List Stp) {o z : Dat}, o.get q = some z → o.t.sub q = some z.t
  | [], o, z, h => by simp only [Dat.get, Option.some.injEq] at h; subst h; rfl
  | .fld k :: q, o, z, h => by
    simp only [Dat.get] at h
    cases hf : fldD o.t o.x k with
    | none => simp [hf] at h
    | some y => simp only [hf] at h; simp only [Ty.sub, fldD_t hf]; exact get_sub q h
  | .idx i :: q, o, z, h => by
    obtain ⟨t, x⟩ := o
    simp only [Dat.get] at h
    cases hf : elemD t x i with
    | none => simp [hf] at h
    | some y =>
      simp only [hf] at h
      obtain ⟨n, ht⟩ := elemD_t hf
      subst ht
      simp only [Ty.sub]; exact get_sub q h

theorem off_le : ∀ (q : List Stp) {t u : Ty}, t.pathOk q → t.sub q = some u → t.off q + u.size ≤ t.size
  | [], t, u, _, h => by simp only [Ty.sub, Option.some.injEq] at h; subst h; simp [Ty.off]
  | .fld k :: q, t, u, hok, h => by
    simp only [Ty.sub] at h
    simp only [Ty.pathOk] at hok
    cases hf : fldT t k with
    | none => simp [hf] at h
    | some y =>
      simp only [hf] at h hok
      have := off_le q hok h
      have := fldOff_le hf
      simp only [Ty.off, hf]
      omega
  | .idx i :: q, t, u, hok, h => by
    cases t with
    | arr n e =>
      simp only [Ty.sub] at h
      simp only [Ty.pathOk] at hok
      have h1 := off_le q hok.2 h
      simp only [Ty.off, Ty.size]
      have h2 : (i + 1) * e.size ≤ n * e.size := Nat.mul_le_mul_right _ hok.1
      rw [Nat.add_mul] at h2
      omega
    | _ => simp [Ty.sub] at h

theorem take_drop_take (cs : List Value) (a b c d : Nat) (h : c + d ≤ b) : (((cs.drop a).take b).drop c).take d = (cs.drop (a + c)).take d := by
  rw [List.drop_take, List.take_take, List.drop_drop, Nat.min_eq_left (by omega)]

/-- A datum at a path. -/
theorem rep_get {M : Mem} : ∀ (q : List Stp) {o z : Dat} {cs : List Value}, rep M o.t cs o.x → o.get q = some z → o.t.pathOk q →
    rep M z.t ((cs.drop (o.t.off q)).take z.t.size) z.x
  | [], o, z, cs, h, hz, _ => by
    simp only [Dat.get, Option.some.injEq] at hz
    subst hz
    simpa [Ty.off, ← rep_length h] using h
  | .fld k :: q, o, z, cs, h, hz, hok => by
    simp only [Dat.get] at hz
    cases hf : fldD o.t o.x k with
    | none => simp [hf] at hz
    | some y =>
      simp only [hf] at hz
      have ht := fldD_t hf
      simp only [Ty.pathOk, ht] at hok
      have h1 := rep_get q (rep_fld h hf) hz hok
      simp only [Ty.off, ht]
      rw [take_drop_take _ _ _ _ _ (off_le q hok (get_sub q hz))] at h1
      exact h1
  | .idx i :: q, ⟨t, x⟩, z, cs, h, hz, hok => by
    simp only [Dat.get] at hz
    cases hf : elemD t x i with
    | none => simp [hf] at hz
    | some y =>
      simp only [hf] at hz
      cases t with
      | arr n e =>
        simp only [elemD, Option.some.injEq] at hf
        subst hf
        simp only [Ty.pathOk] at hok
        simp only [rep] at h
        obtain ⟨he, hn, css, rfl, hr⟩ := h
        have h0 := elem_drop i e.zero hr (by have := hok.1; have h2 : List.length x = n := hn; omega)
        have h1 := rep_get q (o := ⟨e, List.getD x i e.zero⟩) h0 hz hok.2
        simp only [Ty.off]
        rw [take_drop_take _ _ _ _ _ (off_le q hok.2 (get_sub q hz))] at h1
        exact h1
      | _ => simp [elemD] at hf

/-! ### Types of one shape -/

theorem size_of_shape : ∀ {t u : Ty}, t.shape = u.shape → t.size = u.size := by
  intro t
  induction t with
  | cons a b iha ihb => intro u h; cases u <;> simp [Ty.shape] at h; simp [Ty.size, iha h.1, ihb h.2]
  | arr n e ih => intro u h; cases u <;> simp [Ty.shape] at h; simp [Ty.size, h.1, ih h.2]
  | nil => intro u h; cases u <;> simp [Ty.shape] at h; rfl
  | _ => intro u h; cases u <;> simp [Ty.shape] at h <;> rfl

theorem isAgg_of_shape {t u : Ty} (h : t.shape = u.shape) : t.isAgg = u.isAgg := by
  cases t <;> cases u <;> simp_all [Ty.shape, Ty.isAgg]

theorem fld_shape : ∀ {t u : Ty} {k : Nat} {a : Ty}, t.shape = u.shape → fldT t k = some a → ∃ b, fldT u k = some b ∧ a.shape = b.shape ∧ fldOff u k = fldOff t k := by
  intro t
  induction t with
  | cons a b iha ihb =>
    intro u k c h hk
    cases u <;> simp [Ty.shape] at h
    cases k with
    | zero => simp only [fldT, Option.some.injEq] at hk; subst hk; exact ⟨_, rfl, h.1, rfl⟩
    | succ k =>
      simp only [fldT] at hk
      obtain ⟨d, h1, h2, h3⟩ := ihb h.2 hk
      exact ⟨d, h1, h2, by simp only [fldOff, h3, size_of_shape h.1]⟩
  | _ => intro u k c h hk; simp [fldT] at hk

theorem path_shape : ∀ (p : List Stp) {t u : Ty}, t.shape = u.shape → t.pathOk p → u.pathOk p ∧ u.off p = t.off p
  | [], _, _, _, _ => ⟨trivial, rfl⟩
  | .fld k :: p, t, u, h, hok => by
    simp only [Ty.pathOk] at hok
    cases hf : fldT t k with
    | none => simp [hf] at hok
    | some a =>
      simp only [hf] at hok
      obtain ⟨b, h1, h2, h3⟩ := fld_shape h hf
      obtain ⟨h4, h5⟩ := path_shape p h2 hok
      simp only [Ty.pathOk, Ty.off, h1, hf, h3, h5]
      exact ⟨h4, trivial⟩
  | .idx i :: p, t, u, h, hok => by
    cases t <;> simp only [Ty.pathOk] at hok <;> try exact hok.elim
    rename_i n e
    cases u <;> simp [Ty.shape] at h
    rename_i m e'
    obtain ⟨h4, h5⟩ := path_shape p h.2 hok.2
    simp only [Ty.pathOk, Ty.off, h5, size_of_shape h.2]
    exact ⟨⟨by rw [← h.1]; exact hok.1, h4⟩, trivial⟩

theorem sub_shape : ∀ (p : List Stp) {t u a : Ty}, t.shape = u.shape → t.sub p = some a → ∃ b, u.sub p = some b ∧ a.shape = b.shape
  | [], t, u, a, h, ha => by simp only [Ty.sub, Option.some.injEq] at ha; subst ha; exact ⟨u, rfl, h⟩
  | .fld k :: p, t, u, a, h, ha => by
    simp only [Ty.sub] at ha
    cases hf : fldT t k with
    | none => simp [hf] at ha
    | some b =>
      simp only [hf] at ha
      obtain ⟨c, h1, h2, h3⟩ := fld_shape h hf
      simp only [Ty.sub, h1]
      exact sub_shape p h2 ha
  | .idx i :: p, t, u, a, h, ha => by
    cases t <;> simp only [Ty.sub] at ha <;> try cases ha
    cases u <;> simp [Ty.shape] at h
    simp only [Ty.sub]
    exact sub_shape p h.2 ha

/-! ### Values, objects, states -/

mutual
/-- v is what av says. -/
def R (M : Mem) : AV → Value → Prop
  | .undef, _ => True
  | .d t x, v => ∃ cs, v = valOf t cs ∧ rep M t cs x
  | .ptr i t p, v => i < M.nx ∧ t.pathOk p ∧ ∃ b, M.φ i = .pointer (some ⟨b, 0, none⟩) ∧ v = .pointer (some ⟨b, t.off p, none⟩)
  | .eptr i e j q, v => i < M.nx ∧ e.pathOk q ∧ ∃ g n cap, M.φ i = .slice (some ⟨g, 0, none⟩) n cap ∧ j < n ∧ v = .pointer (some ⟨g, j * e.size + e.off q, none⟩)
  | .sub i e a b, v => i < M.nx ∧ ∃ ad n cap, M.φ i = .slice ad n cap ∧ a ≤ b ∧ b ≤ n ∧ n ≤ cap ∧ ∃ ad', v = .slice ad' (b - a) (cap - a) ∧ (a < cap → ad' = ad.map (·.add (a * e.size)))
  | .tup vs, v => ∃ arr : Array Value, v = .tuple arr ∧ RC M vs arr.toList
  | .nilS, v => v = .slice none 0 0
def RC (M : Mem) : List AV → List Value → Prop
  | [], [] => True
  | a :: l, v :: vs => R M a v ∧ RC M l vs
  | [], _ :: _ => False
  | _ :: _, [] => False
end

mutual
theorem R_mono {M M' : Mem} (h : M.le M') : ∀ (a : AV) (v : Value), R M a v → R M' a v
  | .undef, _, _ => by simp [R]
  | .d t x, v, hr => by simp only [R] at hr ⊢; obtain ⟨cs, h1, h2⟩ := hr; exact ⟨cs, h1, rep_mono h h2⟩
  | .ptr i t p, v, hr => by
    simp only [R] at hr ⊢
    obtain ⟨h1, h2, b, h3, h4⟩ := hr
    exact ⟨Nat.lt_of_lt_of_le h1 h.nx, h2, b, (h.φ i h1).trans h3, h4⟩
  | .eptr i e j q, v, hr => by
    simp only [R] at hr ⊢
    obtain ⟨h1, h2, g, n, cap, h3, h4, h5⟩ := hr
    exact ⟨Nat.lt_of_lt_of_le h1 h.nx, h2, g, n, cap, (h.φ i h1).trans h3, h4, h5⟩
  | .sub i e a b, v, hr => by
    simp only [R] at hr ⊢
    obtain ⟨h1, ad, n, cap, h3, h4⟩ := hr
    exact ⟨Nat.lt_of_lt_of_le h1 h.nx, ad, n, cap, (h.φ i h1).trans h3, h4⟩
  | .tup vs, v, hr => by simp only [R] at hr ⊢; obtain ⟨arr, h1, h2⟩ := hr; exact ⟨arr, h1, RC_mono h vs _ h2⟩
  | .nilS, v, hr => by simpa only [R] using hr
theorem RC_mono {M M' : Mem} (h : M.le M') : ∀ (l : List AV) (vs : List Value), RC M l vs → RC M' l vs
  | [], [], _ => by simp [RC]
  | a :: l, v :: vs, hr => by simp only [RC] at hr ⊢; exact ⟨R_mono h a v hr.1, RC_mono h l vs hr.2⟩
  | [], _ :: _, hr => by simp [RC] at hr
  | _ :: _, [], hr => by simp [RC] at hr
end

/-- The object id is as ob says. -/
def OR (M : Mem) (id : Nat) : Ob → Prop
  | .gone => True
  | .box T t x => ∃ b cur, M.φ id = .pointer (some ⟨b, 0, none⟩) ∧ M.own b = .atl id ∧ M.w.heap[b]? = some (.cells cur T (0, 0)) ∧ rep M t cur.toList x
  | .vec T e l => e.pure = true ∧ ∃ a cap, M.φ id = .slice a l.length cap ∧ l.length ≤ cap ∧ cap ≤ maxLen ∧ ((a = none ∧ cap = 0) ∨ ∃ g cur css, a = some ⟨g, 0, none⟩ ∧ M.own g = .atl id ∧
      M.w.heap[g]? = some (.cells cur T (0, 0)) ∧ cur.size = cap * e.size ∧ cur.toList.take (l.length * e.size) = css.flatten ∧ repAll (rep M e) css l)
  | .ibox t x => t.pure = true ∧ ∃ b cs, M.φ id = .pointer (some ⟨b, 0, none⟩) ∧ b < M.w.heap.size ∧ M.own b = .imm ∧ cellsAt M.w b 0 cs ∧ rep M t cs x
  | .ivec e l => e.pure = true ∧ ∃ a cap, M.φ id = .slice a l.length cap ∧ l.length ≤ cap ∧ cap ≤ maxLen ∧ (a = none → cap = 0) ∧ (∀ ad, a = some ad → ∃ g css, ad = ⟨g, 0, none⟩ ∧ g < M.w.heap.size ∧ M.own g = .imm ∧ cellsAt M.w g 0 css.flatten ∧ repAll (rep M e) css l)
  | .map _ _ _ => False

def OS1 (M : Mem) (σ : Sto) : Prop := ∀ id, (lkO σ id = .gone ∨ id < M.nx) ∧ OR M id (lkO σ id)

/-- An object stays, where its block does. -/
theorem OR_keep {M M' : Mem} (h : M.le M') {id : Nat} (hid : id < M.nx) {ob : Ob} (hb : ∀ b, b < M.w.heap.size → M.own b = .atl id → M'.own b = .atl id ∧ M'.w.heap[b]? = M.w.heap[b]?) (ho : OR M id ob) : OR M' id ob := by
  cases ob with
  | gone => trivial
  | box T t x =>
    obtain ⟨b, cur, h1, h2, h3, h4⟩ := ho
    obtain ⟨k1, k2⟩ := hb b (heap_lt h3) h2
    exact ⟨b, cur, (h.φ id hid).trans h1, k1, k2.trans h3, rep_mono h h4⟩
  | vec T e l =>
    obtain ⟨he, a, cap, h1, h2, h3, h4⟩ := ho
    refine ⟨he, a, cap, (h.φ id hid).trans h1, h2, h3, h4.imp (fun h => h) fun ⟨g, cur, css, m1, m2, m3, m4, m5, m6⟩ => ?_⟩
    obtain ⟨k1, k2⟩ := hb g (heap_lt m3) m2
    exact ⟨g, cur, css, m1, k1, k2.trans m3, m4, m5, repAll_mono (fun _ _ => rep_mono h) m6⟩
  | ibox t x =>
    obtain ⟨ht, b, cs, h1, h2, h3, h4, h5⟩ := ho
    obtain ⟨k1, k2⟩ := h.imm b h2 h3
    exact ⟨ht, b, cs, (h.φ id hid).trans h1, heap_lt (k2.trans (Array.getElem?_eq_getElem h2)), k1, cellsAt_eq k2 h4, rep_mono h h5⟩
  | ivec e l =>
    obtain ⟨he, a, cap, h1, h2, h3, h4, h5⟩ := ho
    refine ⟨he, a, cap, (h.φ id hid).trans h1, h2, h3, h4, fun ad had => ?_⟩
    obtain ⟨g, css, m1, m2, m3, m4, m5⟩ := h5 ad had
    obtain ⟨k1, k2⟩ := h.imm g m2 m3
    exact ⟨g, css, m1, heap_lt (k2.trans (Array.getElem?_eq_getElem m2)), k1, cellsAt_eq k2 m4, repAll_mono (fun _ _ => rep_mono h) m5⟩
  | map k e l => exact ho

/-- What holds of a state, its slots holding tm. -/
structure Holds (M : Mem) (st : St) (tm : Nat → Value) (av : List Value) : Prop where
  slots : ∀ k, R M (lk st.env k) (tm k)
  args : RC M st.args av
  objs : OS1 M st.σ
  nx : M.nx = st.nx

/-- The world that a function was entered in, who might touch what there, the values of the arguments that it was handed over. -/
structure Entry extends World where
  own : Nat → Lab
  av : List Value

/-- What was there and is not handed over is as it was. -/
structure Frame (w : World) (own : Nat → Lab) (w' : World) (own' : Nat → Lab) : Prop where
  os : w'.os = w.os
  tape : w'.tape = w.tape
  output : w'.output = w.output
  size : w.heap.size ≤ w'.heap.size
  block : ∀ b, b < w.heap.size → (own b = .imm ∨ own b = .alien) → w'.heap[b]? = w.heap[b]? ∧ own' b = own b

def tmv (a : Act) (k : Nat) : Value := a.tmps.getD k undef

structure Inv (N : Nat) (w0 : Entry) (M : Mem) (st : St) (a : Act) : Prop where
  holds : Holds M st (tmv a) w0.av
  frame : Go.Lift.Frame w0.toWorld w0.own M.w M.own
  defers : a.defers = []
  size : a.tmps.size = N

theorem Frame.refl (w : World) (own : Nat → Lab) : Go.Lift.Frame w own w own := ⟨rfl, rfl, rfl, Nat.le_refl _, fun _ _ _ => ⟨rfl, rfl⟩⟩

theorem Frame.trans {w w' w'' : World} {own own' own'' : Nat → Lab} (h : Go.Lift.Frame w own w' own') (h' : Go.Lift.Frame w' own' w'' own'') : Go.Lift.Frame w own w'' own'' :=
  ⟨h'.os.trans h.os, h'.tape.trans h.tape, h'.output.trans h.output, Nat.le_trans h.size h'.size, fun b hb ho => by
    obtain ⟨h1, h2⟩ := h.block b hb ho
    obtain ⟨h3, h4⟩ := h'.block b (Nat.lt_of_lt_of_le hb h.size) (by rw [h2]; exact ho)
    exact ⟨h3.trans h1, h4.trans h2⟩⟩

theorem tmv_put {a : Act} {d : Nat} {v : Value} (hd : d < a.tmps.size) (k : Nat) : tmv (a.put (some d) v) k = if k = d then v else tmv a k := by
  simp only [tmv, Act.put, Array.getD_eq_getD_getElem?]
  by_cases h : k = d
  · subst h; simp [hd]
  · simp [Array.getElem?_setIfInBounds_ne (Ne.symm h), h]

theorem lk_cons (d : Nat) (av : AV) (env : Env) (k : Nat) : lk ((d, av) :: env) k = if k = d then av else lk env k := by
  simp only [lk]
  by_cases h : k = d
  · subst h; simp
  · have : Nat.beq d k = false := by rw [← Bool.not_eq_true, Nat.beq_eq]; exact fun e => h e.symm
    simp [this, h]

theorem lkO_cons (d : Nat) (ob : Ob) (σ : Sto) (k : Nat) : lkO ((d, ob) :: σ) k = if k = d then ob else lkO σ k := by
  simp only [lkO]
  by_cases h : k = d
  · subst h; simp
  · have : Nat.beq d k = false := by rw [← Bool.not_eq_true, Nat.beq_eq]; exact fun e => h e.symm
    simp [this, h]

end Go.Lift
