import Derived.Test.YtbdbjamebjbhnaaLRun
set_option linter.all false
/- HOW ABSTRACT VALUES STAND TO THE MACHINE's MEMORY. -/
namespace Go.Lift

/-- Who may touch a block: nobody any more (imm), somebody outside (alien), or the object id. -/
inductive Lab where
  | imm | alien | atl (id : Nat)

/-- The values that name the objects, the next free name, who may touch what, the world. -/
structure Mem where
  φ : Nat → Value
  nx : Nat
  own : Nat → Lab
  w : World

def cellsAt (w : World) (b off : Nat) (cs : List Value) : Prop := ∀ (j : Nat) (v : Value), cs[j]? = some v → w.cell? ⟨b, off + j, none⟩ = some v

def repAll {α : Type} (r : List Value → α → Prop) : List (List Value) → List α → Prop
  | [], [] => True
  | c :: cs, x :: xs => r c x ∧ repAll r cs xs
  | _, _ => False

def valOf (t : Ty) (cs : List Value) : Value := if t.isAgg then .agg cs.toArray else cs.headD undef

/-- The cells cs hold the datum x. -/
def rep (M : Mem) : (t : Ty) → List Value → t.den → Prop
  | .int k, cs, x => cs = [.int k x]
  | .bool, cs, x => cs = [.bool x]
  | .str, cs, x => cs = [.string ⟨x.toArray⟩]
  | .any, cs, _ => ∃ v : Value, cs = [v] ∧ v.oneCell' = true
  | .nil, cs, _ => cs = []
  | .cons a b, cs, x => ∃ c1 c2, cs = c1 ++ c2 ∧ rep M a c1 x.1 ∧ rep M b c2 x.2
  | .arr n e, cs, (l : List e.den) => e.pure = true ∧ l.length = n ∧ ∃ css, cs = css.flatten ∧ repAll (rep M e) css l
  | .slice q e, cs, (l : List e.den) => e.pure = true ∧ ∃ a cap, cs = [.slice a l.length cap] ∧ l.length ≤ cap ∧ cap ≤ maxLen ∧ (q = 1 → cap = l.length) ∧ (q = 2 → a ≠ none) ∧ (q = 3 → a = none ∧ cap = 0) ∧
      (l ≠ [] → ∃ b off css, a = some ⟨b, off, none⟩ ∧ b < M.w.heap.size ∧ M.own b = .imm ∧ cellsAt M.w b off css.flatten ∧ repAll (rep M e) css l)
  | .ref i, cs, _ => i < M.nx ∧ cs = [M.φ i] ∧ (M.φ i).oneCell' = true
  | .nilp m, cs, _ => cs = [if m then .map none else .pointer none]
  | .iptr e, cs, (x : Option e.den) => e.pure = true ∧ ((x = none ∧ cs = [.pointer none]) ∨ ∃ y, x = some y ∧ ∃ b off cs', cs = [.pointer (some ⟨b, off, none⟩)] ∧ b < M.w.heap.size ∧ M.own b = .imm ∧ cellsAt M.w b off cs' ∧ rep M e cs' y)
  | .atl e, cs, x => e.pure = true ∧ ∃ b off cs', cs = [.pointer (some ⟨b, off, none⟩)] ∧ b < M.w.heap.size ∧ M.own b = .imm ∧ cellsAt M.w b off cs' ∧ rep M e cs' x
  | .fn f c, cs, x => ∃ arr : Array Value, cs = [.func (.func f) #[] arr] ∧ rep M c arr.toList x

/-- What is immutable stays, and so do the names. -/
structure Mem.le (M M' : Mem) : Prop where
  nx : M.nx ≤ M'.nx
  φ : ∀ i, i < M.nx → M'.φ i = M.φ i
  imm : ∀ b, b < M.w.heap.size → M.own b = .imm → M'.own b = .imm ∧ M'.w.heap[b]? = M.w.heap[b]?

theorem Mem.le.refl (M : Mem) : M.le M := ⟨Nat.le_refl _, fun _ _ => rfl, fun _ _ h => ⟨h, rfl⟩⟩

theorem heap_lt {w : World} {b : Nat} {o : Obj} (h : w.heap[b]? = some o) : b < w.heap.size := (Array.getElem?_eq_some_iff.1 h).1

theorem Mem.le.trans {M M' M'' : Mem} (h : M.le M') (h' : M'.le M'') : M.le M'' :=
  ⟨Nat.le_trans h.nx h'.nx, fun i hi => (h'.φ i (Nat.lt_of_lt_of_le hi h.nx)).trans (h.φ i hi), fun b hb hi => by
    obtain ⟨h1, h2⟩ := h.imm b hb hi
    obtain ⟨h3, h4⟩ := h'.imm b (heap_lt (h2.trans (Array.getElem?_eq_getElem hb))) h1
    exact ⟨h3, h4.trans h2⟩⟩

theorem repAll_mono {α : Type} {r r' : List Value → α → Prop} (h : ∀ c x, r c x → r' c x) : ∀ {cs : List (List Value)} {l : List α}, repAll r cs l → repAll r' cs l
  | [], [], _ => trivial
  | _ :: _, _ :: _, ⟨a, b⟩ => ⟨h _ _ a, repAll_mono h b⟩

theorem repAll_length {α : Type} {r : List Value → α → Prop} : ∀ {cs : List (List Value)} {l : List α}, repAll r cs l → cs.length = l.length
  | [], [], _ => rfl
  | _ :: _, _ :: _, ⟨_, b⟩ => by simp [repAll_length b]

theorem repAll_get {α : Type} {r : List Value → α → Prop} : ∀ {cs : List (List Value)} {l : List α}, repAll r cs l → ∀ (i : Nat) (d : α), i < l.length → r (cs.getD i []) (l.getD i d)
  | [], _ :: _, h, _, _, _ => h.elim
  | _, [], _, _, _, h => absurd h (by simp)
  | _ :: _, _ :: _, ⟨a, _⟩, 0, _, _ => by simpa using a
  | _ :: _, _ :: _, ⟨_, b⟩, i + 1, d, h => by simpa using repAll_get b i d (by simpa using h)

theorem repAll_append {α : Type} {r : List Value → α → Prop} : ∀ {cs cs' : List (List Value)} {l l' : List α}, repAll r cs l → repAll r cs' l' → repAll r (cs ++ cs') (l ++ l')
  | [], _, [], _, _, h => h
  | [], _, _ :: _, _, h, _ => h.elim
  | _ :: _, _, [], _, h, _ => h.elim
  | _ :: _, _, _ :: _, _, ⟨a, b⟩, h => ⟨a, repAll_append b h⟩

theorem repAll_set {α : Type} {r : List Value → α → Prop} {c : List Value} {y : α} (hc : r c y) : ∀ {cs : List (List Value)} {l : List α} (i : Nat), repAll r cs l → repAll r (cs.set i c) (l.set i y)
  | [], [], _, _ => trivial
  | [], _ :: _, _, h => h.elim
  | _ :: _, [], _, h => h.elim
  | _ :: _, _ :: _, 0, ⟨_, b⟩ => ⟨hc, b⟩
  | _ :: _, _ :: _, i + 1, ⟨a, b⟩ => ⟨a, repAll_set hc i b⟩

theorem repAll_take {α : Type} {r : List Value → α → Prop} : ∀ {cs : List (List Value)} {l : List α} (n : Nat), repAll r cs l → repAll r (cs.take n) (l.take n)
  | [], [], n, _ => by simp [repAll]
  | _ :: _, _ :: _, 0, _ => trivial
  | _ :: _, _ :: _, n + 1, ⟨a, b⟩ => ⟨a, repAll_take n b⟩

theorem repAll_drop {α : Type} {r : List Value → α → Prop} : ∀ {cs : List (List Value)} {l : List α} (n : Nat), repAll r cs l → repAll r (cs.drop n) (l.drop n)
  | [], [], n, _ => by simp [repAll]
  | _ :: _, _ :: _, 0, h => h
  | _ :: _, _ :: _, n + 1, ⟨_, b⟩ => repAll_drop n b

theorem repAll_replicate {α : Type} {r : List Value → α → Prop} {c : List Value} {x : α} (h : r c x) : ∀ n, repAll r (List.replicate n c) (List.replicate n x)
  | 0 => trivial
  | n + 1 => ⟨h, repAll_replicate h n⟩

theorem rep_length {M : Mem} : ∀ {t : Ty} {cs : List Value} {x : t.den}, rep M t cs x → cs.length = t.size := by
  intro t
  induction t with
  | int k => intro cs x h; simp only [rep] at h; simp [h, Ty.size]
  | bool => intro cs x h; simp only [rep] at h; simp [h, Ty.size]
  | str => intro cs x h; simp only [rep] at h; simp [h, Ty.size]
  | any => intro cs x h; simp only [rep] at h; obtain ⟨v, rfl, _⟩ := h; simp [Ty.size]
  | nil => intro cs x h; simp only [rep] at h; simp [h, Ty.size]
  | slice q e _ => intro cs x h; simp only [rep] at h; obtain ⟨_, a, cap, rfl, _⟩ := h; simp [Ty.size]
  | ref i => intro cs x h; simp only [rep] at h; simp [h.2.1, Ty.size]
  | nilp m => intro cs x h; simp only [rep] at h; simp [h, Ty.size]
  | iptr e _ => intro cs x h; simp only [rep] at h; obtain ⟨_, ⟨_, rfl⟩ | ⟨y, _, b, off, cs', rfl, _⟩⟩ := h <;> simp [Ty.size]
  | atl e _ => intro cs x h; simp only [rep] at h; obtain ⟨_, b, off, cs', rfl, _⟩ := h; simp [Ty.size]
  | fn f c _ => intro cs x h; simp only [rep] at h; obtain ⟨arr, rfl, _⟩ := h; simp [Ty.size]
  | cons a b iha ihb => intro cs x h; simp only [rep] at h; obtain ⟨c1, c2, rfl, h1, h2⟩ := h; simp [Ty.size, iha h1, ihb h2]
  | arr n e ih =>
    intro cs x h
    simp only [rep] at h
    obtain ⟨_, hn, css, rfl, hr⟩ := h
    have key : ∀ (css : List (List Value)) (l : List e.den), repAll (rep M e) css l → css.flatten.length = l.length * e.size := by
      intro css
      induction css with
      | nil => intro l h; cases l with
        | nil => simp
        | cons a l => exact h.elim
      | cons c css ih2 => intro l h; cases l with
        | nil => exact h.elim
        | cons a l => simp [ih h.1, ih2 l h.2, Nat.add_mul, Nat.add_comm]
    have := key css x hr
    simp only [Ty.size]
    rw [this, show List.length x = n from hn]

theorem flatten_length {M : Mem} {e : Ty} : ∀ {css : List (List Value)} {l : List e.den}, repAll (rep M e) css l → css.flatten.length = l.length * e.size
  | [], [], _ => by simp
  | [], _ :: _, h => h.elim
  | _ :: _, [], h => h.elim
  | c :: css, x :: l, ⟨a, b⟩ => by simp [rep_length a, flatten_length b, Nat.add_mul, Nat.add_comm]

/-- The cells of one element. -/
theorem flatten_get {M : Mem} {e : Ty} : ∀ {css : List (List Value)} {l : List e.den} (i : Nat), repAll (rep M e) css l → i < l.length →
    (css.flatten.drop (i * e.size)).take e.size = css.getD i []
  | [], _ :: _, _, h, _ => h.elim
  | _, [], _, _, h => absurd h (by simp)
  | c :: css, x :: l, 0, ⟨a, b⟩, _ => by simp [← rep_length a]
  | c :: css, x :: l, i + 1, ⟨a, b⟩, h => by
    have := flatten_get i b (by simpa using h)
    have hl := rep_length a
    have e1 : (i + 1) * e.size = c.length + i * e.size := by rw [hl, Nat.add_mul, Nat.add_comm]; simp
    simp only [List.flatten_cons, e1, List.drop_append, List.getD_cons_succ]
    rw [List.drop_eq_nil_of_le (by omega)]
    simpa using this

theorem elem_drop {M : Mem} {e : Ty} {css : List (List Value)} {l : List e.den} (i : Nat) (d : e.den) (h : repAll (rep M e) css l) (hi : i < l.length) :
    rep M e ((css.flatten.drop (i * e.size)).take e.size) (l.getD i d) := by
  rw [flatten_get i h hi]
  exact repAll_get h i d hi

theorem pure_cons {a b : Ty} (h : (Ty.cons a b).pure = true) : a.pure = true ∧ b.pure = true := by simpa [Ty.pure] using h

theorem cell?_lt {w : World} {b off : Nat} {v : Value} (h : w.cell? ⟨b, off, none⟩ = some v) : b < w.heap.size := by
  rcases Nat.lt_or_ge b w.heap.size with h' | h'
  · exact h'
  · simp [World.cell?, Array.getElem?_eq_none h'] at h

theorem cell?_eq {w w' : World} {b : Nat} (h : w'.heap[b]? = w.heap[b]?) (off : Nat) : w'.cell? ⟨b, off, none⟩ = w.cell? ⟨b, off, none⟩ := by simp [World.cell?, h]

theorem cellsAt_eq {w w' : World} {b off : Nat} {cs : List Value} (h : w'.heap[b]? = w.heap[b]?) (hc : cellsAt w b off cs) : cellsAt w' b off cs :=
  fun j v hv => by rw [cell?_eq h]; exact hc j v hv

/-- What holds, holds behind whatever leaves the immutable alone. -/
theorem rep_mono {M M' : Mem} (h : M.le M') : ∀ {t : Ty} {cs : List Value} {x : t.den}, rep M t cs x → rep M' t cs x := by
  have blk : ∀ {b off : Nat} {cs : List Value}, b < M.w.heap.size → M.own b = .imm → cellsAt M.w b off cs → b < M'.w.heap.size ∧ M'.own b = .imm ∧ cellsAt M'.w b off cs := fun hb ho hc => by
    obtain ⟨h1, h2⟩ := h.imm _ hb ho
    exact ⟨heap_lt (h2.trans (Array.getElem?_eq_getElem hb)), h1, cellsAt_eq h2 hc⟩
  intro t
  induction t with
  | cons a b iha ihb =>
    intro cs x hr
    simp only [rep] at hr ⊢
    obtain ⟨c1, c2, rfl, h1, h2⟩ := hr
    exact ⟨c1, c2, rfl, iha h1, ihb h2⟩
  | arr n e ih =>
    intro cs x hr
    simp only [rep] at hr ⊢
    obtain ⟨he, hn, css, rfl, hc⟩ := hr
    exact ⟨he, hn, css, rfl, repAll_mono (fun _ _ => ih) hc⟩
  | slice q e ih =>
    intro cs x hr
    simp only [rep] at hr ⊢
    obtain ⟨he, a, cap, rfl, h1, h2, q1, q2, q3, hc⟩ := hr
    refine ⟨he, a, cap, rfl, h1, h2, q1, q2, q3, fun hl => ?_⟩
    obtain ⟨b, off, css, k1, hb, k2, k3, k4⟩ := hc hl
    obtain ⟨m1, m2, m3⟩ := blk hb k2 k3
    exact ⟨b, off, css, k1, m1, m2, m3, repAll_mono (fun _ _ => ih) k4⟩
  | ref i => intro cs x hr; simp only [rep] at hr ⊢; rw [h.φ i hr.1]; exact ⟨Nat.lt_of_lt_of_le hr.1 h.nx, hr.2⟩
  | iptr e ih =>
    intro cs x hr
    simp only [rep] at hr ⊢
    refine ⟨hr.1, hr.2.imp id fun ⟨y, hy, b, off, cs', k1, hb, k2, k3, k4⟩ => ?_⟩
    obtain ⟨m1, m2, m3⟩ := blk hb k2 k3
    exact ⟨y, hy, b, off, cs', k1, m1, m2, m3, ih k4⟩
  | atl e ih =>
    intro cs x hr
    simp only [rep] at hr ⊢
    obtain ⟨he, b, off, cs', k1, hb, k2, k3, k4⟩ := hr
    obtain ⟨m1, m2, m3⟩ := blk hb k2 k3
    exact ⟨he, b, off, cs', k1, m1, m2, m3, ih k4⟩
  | fn f c ih =>
    intro cs x hr
    simp only [rep] at hr ⊢
    obtain ⟨arr, h1, h2⟩ := hr
    exact ⟨arr, h1, ih h2⟩
  | _ => intro cs x hr; simpa only [rep] using hr

/-- A datum without objects, where the names may be others and more may be immutable. -/
theorem rep_pure {M M' : Mem} (h : ∀ b, b < M.w.heap.size → M.own b = .imm → M'.own b = .imm ∧ M'.w.heap[b]? = M.w.heap[b]?) : ∀ {t : Ty} {cs : List Value} {x : t.den}, t.pure = true → rep M t cs x → rep M' t cs x := by
  intro t cs x hp hr
  have key : ∀ (N : Mem), N.nx = 0 → ∀ {t : Ty} {cs : List Value} {x : t.den}, t.pure = true → rep M t cs x → (N.φ = M.φ ∧ N.own = M.own ∧ N.w = M.w) → rep N t cs x := by
    intro N _ t
    have blk : ∀ {b off : Nat} {cs : List Value}, (N.φ = M.φ ∧ N.own = M.own ∧ N.w = M.w) → b < M.w.heap.size → M.own b = .imm → cellsAt M.w b off cs → b < N.w.heap.size ∧ N.own b = .imm ∧ cellsAt N.w b off cs := fun e hb ho hc => by
      rw [e.2.1, e.2.2]; exact ⟨hb, ho, hc⟩
    induction t with
    | cons a b iha ihb =>
      intro cs x hp hr e
      obtain ⟨pa, pb⟩ := pure_cons hp
      simp only [rep] at hr ⊢
      obtain ⟨c1, c2, rfl, h1, h2⟩ := hr
      exact ⟨c1, c2, rfl, iha pa h1 e, ihb pb h2 e⟩
    | arr n e' ih =>
      intro cs x hp hr e
      simp only [rep] at hr ⊢
      obtain ⟨he, hn, css, rfl, hc⟩ := hr
      exact ⟨he, hn, css, rfl, repAll_mono (fun _ _ h => ih he h e) hc⟩
    | slice q e' ih =>
      intro cs x hp hr e
      simp only [rep] at hr ⊢
      obtain ⟨he, a, cap, rfl, h1, h2, q1, q2, q3, hc⟩ := hr
      refine ⟨he, a, cap, rfl, h1, h2, q1, q2, q3, fun hl => ?_⟩
      obtain ⟨b, off, css, k1, hb, k2, k3, k4⟩ := hc hl
      obtain ⟨m1, m2, m3⟩ := blk e hb k2 k3
      exact ⟨b, off, css, k1, m1, m2, m3, repAll_mono (fun _ _ h => ih he h e) k4⟩
    | ref i => intro cs x hp; simp [Ty.pure] at hp
    | iptr e' ih =>
      intro cs x hp hr e
      simp only [rep] at hr ⊢
      refine ⟨hr.1, hr.2.imp (fun h => h) fun ⟨y, hy, b, off, cs', k1, hb, k2, k3, k4⟩ => ?_⟩
      obtain ⟨m1, m2, m3⟩ := blk e hb k2 k3
      exact ⟨y, hy, b, off, cs', k1, m1, m2, m3, ih hr.1 k4 e⟩
    | atl e' ih =>
      intro cs x hp hr e
      simp only [rep] at hr ⊢
      obtain ⟨he, b, off, cs', k1, hb, k2, k3, k4⟩ := hr
      obtain ⟨m1, m2, m3⟩ := blk e hb k2 k3
      exact ⟨he, b, off, cs', k1, m1, m2, m3, ih he k4 e⟩
    | fn f c ih =>
      intro cs x hp hr e
      simp only [rep] at hr ⊢
      obtain ⟨arr, h1, h2⟩ := hr
      exact ⟨arr, h1, ih (by simpa [Ty.pure] using hp) h2 e⟩
    | _ => intro cs x hp hr e; simpa only [rep] using hr
  have h0 := key { M with nx := 0 } rfl hp hr ⟨rfl, rfl, rfl⟩
  exact rep_mono (M := { M with nx := 0 }) ⟨Nat.zero_le _, fun i hi => absurd hi (Nat.not_lt_zero i), h⟩ h0

/-- What holds no memory, anywhere. -/
theorem rep_scalar {M M' : Mem} {t : Ty} {cs : List Value} {x : t.den} (ht : t.scalar = true) (h : rep M t cs x) : rep M' t cs x := by
  induction t generalizing cs with
  | cons a b iha ihb =>
    simp only [Ty.scalar, Bool.and_eq_true] at ht
    simp only [rep] at h ⊢
    obtain ⟨c1, c2, rfl, h1, h2⟩ := h
    exact ⟨c1, c2, rfl, iha ht.1 h1, ihb ht.2 h2⟩
  | arr n e ih =>
    simp only [Ty.scalar] at ht
    simp only [rep] at h ⊢
    obtain ⟨he, hn, css, rfl, hc⟩ := h
    exact ⟨he, hn, css, rfl, repAll_mono (fun _ _ => ih ht) hc⟩
  | fn f c ih =>
    simp only [Ty.scalar] at ht
    simp only [rep] at h ⊢
    obtain ⟨arr, h1, h2⟩ := h
    exact ⟨arr, h1, ih ht h2⟩
  | slice q e _ => simp [Ty.scalar] at ht
  | ref i => simp [Ty.scalar] at ht
  | iptr e _ => simp [Ty.scalar] at ht
  | atl e _ => simp [Ty.scalar] at ht
  | _ => simpa only [rep] using h

theorem cells_of_oneCell {v : Value} (h : v.oneCell' = true) : v.cells = #[v] := by
  cases v <;> first | rfl | simp [Value.oneCell'] at h

/-- Each cell is a cell. -/
theorem rep_oneCell {M : Mem} : ∀ {t : Ty} {cs : List Value} {x : t.den}, rep M t cs x → ∀ v ∈ cs, v.oneCell' = true := by
  intro t
  induction t with
  | any => intro cs x h v hv; simp only [rep] at h; obtain ⟨u, rfl, hu⟩ := h; simp at hv; subst hv; exact hu
  | nil => intro cs x h v hv; simp only [rep] at h; subst h; simp at hv
  | slice q e _ => intro cs x h v hv; simp only [rep] at h; obtain ⟨_, a, cap, rfl, _⟩ := h; simp at hv; subst hv; rfl
  | ref i => intro cs x h v hv; simp only [rep] at h; obtain ⟨_, rfl, h3⟩ := h; simp at hv; subst hv; exact h3
  | nilp m => intro cs x h v hv; simp only [rep] at h; subst h; simp at hv; subst hv; cases m <;> rfl
  | iptr e _ => intro cs x h v hv; simp only [rep] at h; obtain ⟨_, ⟨_, rfl⟩ | ⟨y, _, b, off, cs', rfl, _⟩⟩ := h <;> (simp at hv; subst hv; rfl)
  | atl e _ => intro cs x h v hv; simp only [rep] at h; obtain ⟨_, b, off, cs', rfl, _⟩ := h; simp at hv; subst hv; rfl
  | fn f c _ => intro cs x h v hv; simp only [rep] at h; obtain ⟨arr, rfl, _⟩ := h; simp at hv; subst hv; rfl
  | cons a b iha ihb =>
    intro cs x h v hv
    simp only [rep] at h
    obtain ⟨c1, c2, rfl, h1, h2⟩ := h
    rcases List.mem_append.1 hv with hv | hv
    · exact iha h1 v hv
    · exact ihb h2 v hv
  | arr n e ih =>
    intro cs x h v hv
    simp only [rep] at h
    obtain ⟨_, _, css, rfl, hr⟩ := h
    have key : ∀ (css : List (List Value)) (l : List e.den), repAll (rep M e) css l → ∀ c ∈ css, ∀ v ∈ c, v.oneCell' = true := by
      intro css
      induction css with
      | nil => intro l h c hc; simp at hc
      | cons c css ih2 => intro l h d hd; cases l with
        | nil => exact h.elim
        | cons a l =>
          rcases List.mem_cons.1 hd with rfl | hd
          · exact ih h.1
          · exact ih2 l h.2 d hd
    obtain ⟨c, hc, hvc⟩ := List.mem_flatten.1 hv
    exact key css x hr c hc v hvc
  | _ => intro cs x h v hv; simp only [rep] at h; subst h; simp at hv; subst hv; rfl

theorem valOf_cells {M : Mem} {t : Ty} {cs : List Value} {x : t.den} (h : rep M t cs x) : (valOf t cs).cells.toList = cs := by
  unfold valOf
  by_cases ha : t.isAgg = true
  · simp [ha, Value.cells]
  · have hl := rep_length h
    have h1 : t.size = 1 := by cases t <;> simp_all [Ty.isAgg, Ty.size]
    rw [h1] at hl
    obtain ⟨v, rfl⟩ := List.length_eq_one_iff.1 hl
    have := rep_oneCell h v (by simp)
    simp [ha, cells_of_oneCell this]

end Go.Lift
