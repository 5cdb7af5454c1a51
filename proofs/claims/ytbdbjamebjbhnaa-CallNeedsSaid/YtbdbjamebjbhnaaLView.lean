import Derived.Test.YtbdbjamebjbhnaaLInv
set_option linter.all false
/- READING: the datum that a value is seen as. -/
namespace Go.Lift

theorem memN_iff {n : Nat} : ∀ {l : List Nat}, memN n l = true ↔ n ∈ l
  | [] => by simp [memN]
  | m :: l => by
    simp only [memN, Bool.or_eq_true, memN_iff (l := l), List.mem_cons, Nat.beq_eq]
    exact or_congr_left eq_comm

/-- M' takes as immutable what M does, and the objects S. -/
def Sees (M M' : Mem) (S : List Nat) : Prop :=
  ∀ b, b < M.w.heap.size → (M.own b = .imm ∨ ∃ id, id ∈ S ∧ M.own b = .atl id) → M'.own b = .imm ∧ M'.w.heap[b]? = M.w.heap[b]?

theorem Sees.sub {M M' : Mem} {S S' : List Nat} (h : Sees M M' S) (hs : ∀ i, i ∈ S' → i ∈ S) : Sees M M' S' :=
  fun b hb ho => h b hb (ho.imp id fun ⟨i, h1, h2⟩ => ⟨i, hs i h1, h2⟩)
theorem Sees.imm {M M' : Mem} {S : List Nat} (h : Sees M M' S) : ∀ b, b < M.w.heap.size → M.own b = .imm → M'.own b = .imm ∧ M'.w.heap[b]? = M.w.heap[b]? := fun b hb ho => h b hb (.inl ho)

theorem cellsAt_block {w : World} {b : Nat} {cur : Array Value} {T : TypeId} {f : Nat × Nat} (h : w.heap[b]? = some (.cells cur T f)) (off n : Nat) : cellsAt w b off ((cur.toList.drop off).take n) := by
  intro j v hj
  rw [List.getElem?_take] at hj
  split at hj
  · simpa [World.cell?, h] using hj
  · cases hj

theorem cellsAt_whole {w : World} {b : Nat} {cur : Array Value} {T : TypeId} {f : Nat × Nat} (h : w.heap[b]? = some (.cells cur T f)) : cellsAt w b 0 cur.toList := by
  intro j v hj
  simpa [World.cell?, h] using hj

theorem cellsAt_of_block {w : World} {g : Nat} {cur : Array Value} {T : TypeId} {fz : Nat × Nat} {cs : List Value} (h : w.heap[g]? = some (.cells cur T fz)) {n : Nat} (ht : cur.toList.take n = cs) : cellsAt w g 0 cs := by
  intro j v hj
  rw [← ht, List.getElem?_take] at hj
  split at hj
  · simpa [World.cell?, h] using hj
  · cases hj

theorem cellsAt_sub {w : World} {b off : Nat} {cs : List Value} (h : cellsAt w b off cs) (c d : Nat) : cellsAt w b (off + c) ((cs.drop c).take d) := by
  intro j v hj
  rw [List.getElem?_take] at hj
  split at hj
  · have := h (c + j) v (by simpa using hj)
    rwa [← Nat.add_assoc] at this
  · cases hj

theorem beq_refl_eq {a b : Ty} (h : a.beq b = true) : a = b := Ty.beq_eq h

/-- The datum of an object, as others see it. -/
def SeenAs (M M' : Mem) (i : Nat) (u : Dat) : Prop := u.t.pure = true ∧ u.t.isAgg = false ∧ rep M' u.t [M.φ i] u.x

theorem purW_ok {M M' : Mem} {S : List Nat} (hs : Sees M M' S) {rec : Nat → Option Dat} : ∀ {t : Ty} {x : t.den} {cs : List Value} {z : Dat},
    (∀ i u, i ∈ t.ids → rec i = some u → SeenAs M M' i u) → purW rec t x = some z → rep M t cs x → z.t.pure = true ∧ z.t.isAgg = t.isAgg ∧ rep M' z.t cs z.x := by
  intro t
  induction t with
  | cons a b iha ihb =>
    intro x cs z hr h hx
    simp only [purW] at h
    cases hc : (Ty.cons a b).settled <;> simp only [hc, cond_true, cond_false] at h
    · cases h1 : purW rec a x.1 with
      | none => simp [h1] at h
      | some u =>
        cases h2 : purW rec b x.2 with
        | none => simp [h1, h2] at h
        | some v =>
          simp only [h1, h2, Option.some.injEq] at h
          subst h
          simp only [rep] at hx
          obtain ⟨c1, c2, rfl, k1, k2⟩ := hx
          obtain ⟨p1, _, r1⟩ := iha (fun i u hi => hr i u (by simp [Ty.ids, hi])) h1 k1
          obtain ⟨p2, _, r2⟩ := ihb (fun i u hi => hr i u (by simp [Ty.ids, hi])) h2 k2
          exact ⟨by simp [Ty.pure, p1, p2], rfl, c1, c2, rfl, r1, r2⟩
    · have hp : ∀ t : Ty, t.settled = true → t.pure = true := by
        intro t
        induction t with
        | cons a b iha ihb => intro h; simp only [Ty.settled, Bool.and_eq_true] at h; simp [Ty.pure, iha h.1, ihb h.2]
        | arr n e ih => intro h; simp only [Ty.settled] at h; simpa [Ty.pure] using ih h
        | fn f c ih => intro h; simp only [Ty.settled] at h; simpa [Ty.pure] using ih h
        | ref i => intro h; simp [Ty.settled] at h
        | _ => intro _; rfl
      cases h
      exact ⟨hp _ hc, rfl, rep_pure hs.imm (hp _ hc) hx⟩
  | fn f c ih =>
    intro x cs z hr h hx
    simp only [purW] at h
    cases h1 : purW rec c x with
    | none => simp [h1] at h
    | some u =>
      simp only [h1, Option.some.injEq] at h
      subst h
      simp only [rep] at hx
      obtain ⟨arr, k1, k2⟩ := hx
      obtain ⟨p1, _, r1⟩ := ih hr h1 k2
      exact ⟨p1, rfl, arr, k1, r1⟩
  | ref i =>
    intro x cs z hr h hx
    simp only [purW] at h
    simp only [rep] at hx
    obtain ⟨p, q, r⟩ := hr i z (by simp [Ty.ids]) h
    exact ⟨p, q, by rw [hx.2.1]; exact r⟩
  | arr n e _ =>
    intro x cs z hr h hx
    simp only [purW] at h
    cases hc : e.settled <;> simp only [hc, cond_true, cond_false] at h
    · cases h
    · cases h
      have he := hx.1
      exact ⟨he, rfl, rep_pure (t := .arr n e) hs.imm he hx⟩
  | slice q e _ =>
    intro x cs z hr h hx
    simp only [purW, Option.some.injEq] at h
    subst h
    refine ⟨rfl, rfl, ?_⟩
    have hx' : rep M (.slice 0 e) cs x := by
      obtain ⟨he, a, cap, h1, h2, h3, _, _, _, h4⟩ := hx
      exact ⟨he, a, cap, h1, h2, h3, by omega, by omega, by omega, h4⟩
    exact rep_pure (t := .slice 0 e) hs.imm rfl hx'
  | int k => intro x cs z hr h hx; simp only [purW, Option.some.injEq] at h; subst h; exact ⟨rfl, rfl, hx⟩
  | bool => intro x cs z hr h hx; simp only [purW, Option.some.injEq] at h; subst h; exact ⟨rfl, rfl, hx⟩
  | str => intro x cs z hr h hx; simp only [purW, Option.some.injEq] at h; subst h; exact ⟨rfl, rfl, hx⟩
  | nil => intro x cs z hr h hx; simp only [purW, Option.some.injEq] at h; subst h; exact ⟨rfl, rfl, hx⟩
  | any => intro x cs z hr h hx; simp only [purW, Option.some.injEq] at h; subst h; exact ⟨rfl, rfl, hx⟩
  | nilp m => intro x cs z hr h hx; simp only [purW, Option.some.injEq] at h; subst h; exact ⟨rfl, rfl, hx⟩
  | iptr e _ => intro x cs z hr h hx; simp only [purW, Option.some.injEq] at h; subst h; exact ⟨rfl, rfl, rep_pure (t := .iptr e) hs.imm rfl hx⟩
  | atl e _ => intro x cs z hr h hx; simp only [purW, Option.some.injEq] at h; subst h; exact ⟨rfl, rfl, rep_pure (t := .atl e) hs.imm rfl hx⟩

theorem mem_rchW {rec : Nat → List Nat} {i j : Nat} : ∀ {t : Ty}, i ∈ t.ids → j ∈ rec i → j ∈ rchW rec t := by
  intro t
  induction t with
  | cons a b iha ihb =>
    intro h hj
    simp only [Ty.ids, List.mem_append] at h
    simp only [rchW, List.mem_append]
    exact h.imp (fun h => iha h hj) (fun h => ihb h hj)
  | fn f c ih => intro h hj; exact ih h hj
  | ref k => intro h hj; simp [Ty.ids] at h; subst h; exact hj
  | _ => intro h; simp [Ty.ids] at h

theorem vec_slice {M M' : Mem} {i : Nat} {T : TypeId} {e : Ty} {l : List e.den} {S : List Nat} (hs : Sees M M' S) (hi : i ∈ S) (ho : OR M i (.vec T e l)) : rep M' (.slice 0 e) [M.φ i] l := by
  obtain ⟨he, a, cap, h1, h2, h3, h4⟩ := ho
  refine ⟨he, a, cap, by rw [h1], h2, h3, by omega, by omega, by omega, fun hl => ?_⟩
  rcases h4 with ⟨_, h0⟩ | ⟨g, cur, css, k1, k2, k3, k4, k5, k6⟩
  · have hz : l.length = 0 := by omega
    exact absurd (List.eq_nil_of_length_eq_zero hz) hl
  · obtain ⟨m1, m2⟩ := hs g (heap_lt k3) (.inr ⟨i, hi, k2⟩)
    exact ⟨g, 0, css, k1, heap_lt (m2.trans k3), m1, cellsAt_eq m2 (cellsAt_of_block k3 k5), repAll_mono (fun _ _ hr => rep_pure hs.imm he hr) k6⟩

theorem ivec_slice {M M' : Mem} {i : Nat} {e : Ty} {l : List e.den} {S : List Nat} (hs : Sees M M' S) (ho : OR M i (.ivec e l)) : rep M' (.slice 0 e) [M.φ i] l := by
  obtain ⟨he, a, cap, h1, h2, h3, h4, h5⟩ := ho
  refine ⟨he, a, cap, by rw [h1], h2, h3, by omega, by omega, by omega, fun hl => ?_⟩
  cases a with
  | none =>
    have := h4 rfl
    have hz : l.length = 0 := by omega
    exact absurd (List.eq_nil_of_length_eq_zero hz) hl
  | some ad =>
    obtain ⟨g, css, k1, k2, k3, k4, k5⟩ := h5 ad rfl
    obtain ⟨m1, m2⟩ := hs.imm g k2 k3
    exact ⟨g, 0, css, by rw [k1], heap_lt (m2.trans (Array.getElem?_eq_getElem k2)), m1, cellsAt_eq m2 k4, repAll_mono (fun _ _ hr => rep_pure hs.imm he hr) k5⟩

theorem mem_hot {σ : Sto} {j : Nat} : ∀ {l : List Nat}, j ∈ hot σ l ↔ j ∈ l ∧ (lkO σ j).isObj = true
  | [] => by simp [hot]
  | i :: l => by
    simp only [hot]
    cases h : (lkO σ i).isObj <;> simp only [cond_true, cond_false, List.mem_cons, mem_hot (l := l)]
    · constructor
      · exact fun ⟨h1, h2⟩ => ⟨.inr h1, h2⟩
      · rintro ⟨rfl | h1, h2⟩
        · rw [h] at h2; cases h2
        · exact ⟨h1, h2⟩
    · constructor
      · rintro (rfl | ⟨h1, h2⟩)
        · exact ⟨.inl rfl, h⟩
        · exact ⟨.inr h1, h2⟩
      · rintro ⟨rfl | h1, h2⟩
        · exact .inl rfl
        · exact .inr ⟨h1, h2⟩

theorem purI_ok {M M' : Mem} {σ : Sto} (hO : OS1 M σ) : ∀ (n i : Nat) (u : Dat) (S : List Nat), Sees M M' S → (∀ j, j ∈ rchI σ n i → (lkO σ j).isObj = true → j ∈ S) → purI σ n i = some u → SeenAs M M' i u
  | 0, _, _, _, _, _, h => by simp [purI] at h
  | n + 1, i, u, S, hs, hS, h => by
    have ho := (hO i).2
    simp only [purI] at h
    cases hl : lkO σ i <;> simp only [hl] at h ho <;> try (cases h; done)
    · rename_i T t x
      cases hp : purW (purI σ n) t x with
      | none => simp [hp] at h
      | some z =>
        simp only [hp, Option.some.injEq] at h
        subst h
        obtain ⟨b, cur, h1, h2, h3, h4⟩ := ho
        have hi : i ∈ S := hS i (by simp [rchI]) (by rw [hl]; rfl)
        obtain ⟨p, _, r⟩ := purW_ok hs (fun j v hj hv => purI_ok hO n j v S hs (fun k hk => hS k (by
          simp only [rchI, hl, List.mem_cons]
          exact .inr (mem_rchW hj hk))) hv) hp h4
        obtain ⟨m1, m2⟩ := hs b (heap_lt h3) (.inr ⟨i, hi, h2⟩)
        exact ⟨rfl, rfl, p, b, 0, cur.toList, by rw [h1], heap_lt (m2.trans h3), m1, cellsAt_eq m2 (cellsAt_whole h3), r⟩
    · cases h
      exact ⟨rfl, rfl, vec_slice hs (hS i (by simp [rchI]) (by rw [hl]; rfl)) ho⟩
    · cases h
      obtain ⟨ht, b, cs, h1, h2, h3, h4, h5⟩ := ho
      obtain ⟨m1, m2⟩ := hs.imm b h2 h3
      exact ⟨rfl, rfl, ht, b, 0, cs, by rw [h1], heap_lt (m2.trans (Array.getElem?_eq_getElem h2)), m1, cellsAt_eq m2 h4, rep_pure hs.imm ht h5⟩
    · cases h
      exact ⟨rfl, rfl, ivec_slice hs ho⟩

theorem purify_ok {M M' : Mem} {σ : Sto} (hO : OS1 M σ) {t : Ty} {x : t.den} {z : Dat} {cs : List Value} (hs : Sees M M' (hot σ (reach σ t))) (h : purify σ t x = some z) (hr : rep M t cs x) :
    z.t.pure = true ∧ z.t.isAgg = t.isAgg ∧ rep M' z.t cs z.x :=
  purW_ok hs (fun i u hi hu => purI_ok hO DEPTH i u _ hs (fun _ hj hob => mem_hot.2 ⟨mem_rchW hi hj, hob⟩) hu) h hr

theorem valOf_agg {t u : Ty} (h : u.isAgg = t.isAgg) (cs : List Value) : valOf u cs = valOf t cs := by unfold valOf; rw [h]

theorem pure_get : ∀ (p : List Stp) {t : Ty} {u : Ty}, t.pure = true → t.sub p = some u → u.pure = true
  | [], t, u, h, e => by simp only [Ty.sub, Option.some.injEq] at e; subst e; exact h
  | .fld k :: p, t, u, h, e => by
    simp only [Ty.sub] at e
    have key : ∀ (t : Ty) (k : Nat) (a : Ty), t.pure = true → fldT t k = some a → a.pure = true := by
      intro t
      induction t with
      | cons a b iha ihb =>
        intro k c h hk
        cases k with
        | zero => simp only [fldT, Option.some.injEq] at hk; subst hk; exact (pure_cons h).1
        | succ k => exact ihb k c (pure_cons h).2 hk
      | _ => intro k c h hk; simp [fldT] at hk
    cases hf : fldT t k with
    | none => simp [hf] at e
    | some a => simp only [hf] at e; exact pure_get p (key t k a h hf) e
  | .idx i :: p, t, u, h, e => by
    cases t <;> simp only [Ty.sub] at e <;> try (cases e; done)
    exact pure_get p (by simpa [Ty.pure] using h) e

/-- What a value is seen as. -/
theorem viewA_ok {M M' : Mem} {σ : Sto} (hO : OS1 M σ) {a : AV} {v : Value} {z : Dat} (hs : Sees M M' (hot σ (a.reach σ))) (h : viewA σ a = some z) (hR : R M a v) :
    ∃ cs, v = valOf z.t cs ∧ z.t.pure = true ∧ rep M' z.t cs z.x := by
  cases a with
  | d t x =>
    simp only [R] at hR
    obtain ⟨cs, h1, h2⟩ := hR
    obtain ⟨p, q, r⟩ := purify_ok hO hs h h2
    exact ⟨cs, by rw [valOf_agg q]; exact h1, p, r⟩
  | ptr i t p =>
    simp only [R] at hR
    simp only [viewA] at h
    obtain ⟨h1, h2, b, h3, h4⟩ := hR
    cases hp : purI σ DEPTH i with
    | none => simp [hp] at h
    | some u =>
      obtain ⟨ut, ux⟩ := u
      cases ut <;> simp only [hp] at h <;> try (cases h; done)
      rename_i t'
      cases hg : (Dat.mk t' ux).get p with
      | none => simp [hg] at h
      | some y =>
        simp only [hg] at h
        cases hc : (t.shape.beq t'.shape && y.t.pure) <;> simp only [hc, cond_true, cond_false] at h
        · cases h
        simp only [Bool.and_eq_true] at hc
        cases h
        obtain ⟨_, _, he, b', off, cs', k1, k2, k3, k4, k5⟩ := purI_ok hO DEPTH i _ _ hs (fun _ h hob => mem_hot.2 ⟨h, hob⟩) hp
        rw [h3] at k1
        cases k1
        obtain ⟨ok', ho'⟩ := path_shape p (Ty.beq_eq hc.1) h2
        have hr := rep_get p (o := ⟨t', ux⟩) k5 hg ok'
        refine ⟨_, by rw [h4]; rfl, rfl, hc.2, b, t.off p, _, rfl, k2, k3, ?_, hr⟩
        have := cellsAt_sub k4 (t'.off p) y.t.size
        rw [← ho']
        simpa using this
  | sub i e a b =>
    simp only [R] at hR
    simp only [viewA] at h
    obtain ⟨h1, ad, n, cap, h2, h3, h4, h5, ad', h6, h7⟩ := hR
    have key : ∀ (e' : Ty) (l : List e'.den), rep M' (.slice 0 e') [M.φ i] l → e.beq e' = true → z = ⟨.slice 0 e', (l.take b).drop a⟩ → ∃ cs, v = valOf z.t cs ∧ z.t.pure = true ∧ rep M' z.t cs z.x := by
      intro e' l hr hbe hz
      have := Ty.beq_eq hbe
      subst this
      subst hz
      obtain ⟨he, ad0, cap0, k1, k2, k3, _, _, _, k4⟩ := hr
      rw [h2] at k1
      simp only [List.cons.injEq, Value.slice.injEq, and_true] at k1
      obtain ⟨rfl, hn, rfl⟩ := k1
      have hb : b ≤ List.length l := by rw [← hn]; exact h4
      have hlen : ((l.take b).drop a).length = b - a := by simp [Nat.min_eq_left hb]
      refine ⟨[v], by rw [h6]; rfl, rfl, he, ad', cap - a, by rw [h6, hlen], by rw [hlen]; omega, by omega, by omega, by omega, by omega, fun hl => ?_⟩
      have hab : a < b := by
        rcases Nat.lt_or_ge a b with h | h
        · exact h
        · exact absurd (List.eq_nil_of_length_eq_zero (by rw [hlen]; omega)) hl
      have hl0 : l ≠ [] := fun e0 => by rw [e0] at hb; simp at hb; omega
      obtain ⟨g, off, css, m1, m2, m3, m4, m5⟩ := k4 hl0
      refine ⟨g, off + a * e.size, ((css.take b).drop a), ?_, m2, m3, ?_, repAll_drop a (repAll_take b m5)⟩
      · rw [h7 (by omega), m1]
        simp only [Option.map_some, Option.some.injEq]
        unfold Addr.add
        split
        · rename_i h0; rw [h0]; rfl
        · rfl
      · have hflat : ((css.take b).drop a).flatten = (css.flatten.drop (a * e.size)).take ((b - a) * e.size) := by
          have key2 : ∀ (css : List (List Value)) (l : List e.den), repAll (rep M' e) css l → ∀ n, (css.take n).flatten = css.flatten.take (n * e.size) ∧ (css.drop n).flatten = css.flatten.drop (n * e.size) := by
            intro css
            induction css with
            | nil => intro l _ n; simp
            | cons c css ih =>
              intro l hl n
              cases l with
              | nil => exact hl.elim
              | cons x l =>
                cases n with
                | zero => simp
                | succ n =>
                  obtain ⟨i1, i2⟩ := ih l hl.2 n
                  have hc := rep_length hl.1
                  have e1 : (n + 1) * e.size = c.length + n * e.size := by rw [hc, Nat.add_mul, Nat.one_mul, Nat.add_comm]
                  constructor
                  · rw [List.take_succ_cons, List.flatten_cons, List.flatten_cons, i1, e1, List.take_length_add_append]
                  · rw [List.drop_succ_cons, List.flatten_cons, i2, e1, List.drop_length_add_append]
          rw [(key2 (css.take b) (l.take b) (repAll_take b m5) a).2, (key2 css l m5 b).1, List.drop_take, Nat.sub_mul]
        rw [hflat]
        exact cellsAt_sub m4 _ _
    have ho := (hO i).2
    cases hl : lkO σ i <;> simp only [hl] at h ho <;> try (cases h; done)
    · rename_i T e' l
      cases hbe : e.beq e' <;> simp only [hbe, cond_true, cond_false] at h
      · cases h
      · cases h
        exact key e' l (vec_slice hs (mem_hot.2 ⟨by simp [AV.reach], by rw [hl]; rfl⟩) ho) hbe rfl
    · rename_i e' l
      cases hbe : e.beq e' <;> simp only [hbe, cond_true, cond_false] at h
      · cases h
      · cases h
        exact key e' l (ivec_slice hs ho) hbe rfl
  | undef => simp [viewA] at h
  | eptr i e j q => simp [viewA] at h
  | tup vs => simp [viewA] at h
  | nilS => simp [viewA] at h

/-- Everything is let go. -/
def Mem.all (M : Mem) : Mem := { M with own := fun _ => .imm }

theorem Sees.all (M : Mem) (S : List Nat) : Sees M M.all S := fun _ _ _ => ⟨rfl, rfl⟩

theorem viewA_scalar {M M' : Mem} {σ : Sto} (hO : OS1 M σ) {a : AV} {v : Value} {z : Dat} (h : viewA σ a = some z) (hR : R M a v) (ht : z.t.scalar = true) : ∃ cs, v = valOf z.t cs ∧ rep M' z.t cs z.x := by
  obtain ⟨cs, h1, _, h2⟩ := viewA_ok hO (Sees.all M _) h hR
  exact ⟨cs, h1, rep_scalar ht h2⟩

end Go.Lift
