import Derived.Test.YtbdbjamebjbhnaaLStep4
set_option linter.all false
/- MEMORY THAT TURNS. -/
namespace Go.Lift

/-- A step of memory that touches no object but those of X. -/
structure Turn (M M' : Mem) (X : Nat → Prop) : Prop where
  le : M.le M'
  frame : Go.Lift.Frame M.w M.own M'.w M'.own
  keep : ∀ b, b < M.w.heap.size → ∀ id, M.own b = .atl id → ¬ X id → M'.own b = .atl id ∧ M'.w.heap[b]? = M.w.heap[b]?

section
variable {P : Program} {C : Ctx} {N : Nat} {w0 : Entry} {M : Mem} {s : St} {a : Act} {quiet : Bool} {o : Oper} {R' : Type} {k : St → Option R'} {r : R'}
  {K : Act → World → Prop} {Q : Exit → Act → World → Prop} {w : World}

theorem Holds.to {M' : Mem} {st : St} {tm : Nat → Value} {av : List Value} (hI : Holds M st tm av) {X : Nat → Prop} (hS : Turn M M' X) {σ' : Sto} {nx' : Nat} (hnx : M'.nx = nx')
    (hσ : ∀ id, (lkO σ' id = lkO st.σ id ∧ ¬ X id) ∨ ((lkO σ' id = .gone ∨ id < nx') ∧ OR M' id (lkO σ' id))) : Holds M' { st with σ := σ', nx := nx' } tm av :=
  ⟨fun k => R_mono hS.le _ _ (hI.slots k), RC_mono hS.le _ _ hI.args, fun id => by
    rcases hσ id with ⟨h1, h2⟩ | h
    · rw [h1]
      refine ⟨(hI.objs id).1.imp (fun h => h) (fun h => Nat.lt_of_lt_of_le h hS.le.nx), ?_⟩
      rcases (hI.objs id).1 with h3 | h3
      · rw [h3]; trivial
      · exact OR_keep hS.le h3 (fun b hb ho => hS.keep b hb id ho h2) (hI.objs id).2
    · rw [hnx]; exact h, hnx⟩

theorem Inv.to (hI : Inv N w0 M s a) {M' : Mem} {X : Nat → Prop} (hS : Turn M M' X) {σ' : Sto} {nx' : Nat} (hnx : M'.nx = nx')
    (hσ : ∀ id, (lkO σ' id = lkO s.σ id ∧ ¬ X id) ∨ ((lkO σ' id = .gone ∨ id < nx') ∧ OR M' id (lkO σ' id))) : Inv N w0 M' { s with σ := σ', nx := nx' } a :=
  ⟨hI.holds.to hS hnx hσ, hI.frame.trans hS.frame, hI.defers, hI.size⟩

theorem Turn.refl (M : Mem) (X : Nat → Prop) : Turn M M X := ⟨Mem.le.refl M, Frame.refl _ _, fun _ _ _ h _ => ⟨h, rfl⟩⟩

/-! ### Letting go -/

def Mem.frz (M : Mem) (L : List Nat) : Mem := { M with own := fun b => match M.own b with
  | .atl id => bif memN id L then .imm else .atl id
  | l => l }

theorem frz_turn (M : Mem) (L : List Nat) : Turn M (M.frz L) (· ∈ L) := by
  refine ⟨⟨Nat.le_refl _, fun _ _ => rfl, fun b _ h => ⟨by simp [Mem.frz, h], rfl⟩⟩, ⟨rfl, rfl, rfl, Nat.le_refl _, fun b _ h => ⟨rfl, ?_⟩⟩, fun b _ id h hx => ⟨?_, rfl⟩⟩
  · rcases h with h | h <;> simp [Mem.frz, h]
  · have : memN id L = false := by rw [← Bool.not_eq_true, memN_iff]; exact hx
    simp [Mem.frz, h, this]

theorem frz_sees (M : Mem) (L : List Nat) : Sees M (M.frz L) L := by
  intro b _ h
  rcases h with h | ⟨id, h1, h2⟩
  · exact ⟨by simp [Mem.frz, h], rfl⟩
  · exact ⟨by simp [Mem.frz, h2, memN_iff.2 h1], rfl⟩

theorem subN_iff : ∀ {l m : List Nat}, subN l m = true → ∀ i, i ∈ l → i ∈ m
  | [], _, _, _, h => by simp at h
  | j :: l, m, h, i, hi => by
    simp only [subN, Bool.and_eq_true] at h
    rcases List.mem_cons.1 hi with rfl | hi
    · exact memN_iff.1 h.1
    · exact subN_iff h.2 i hi

theorem frzO_ok (hO : OS1 M s.σ) {L : List Nat} {i : Nat} {ob : Ob} (hi : i ∈ L) (h : frzO s.σ L i = some ob) : OR (M.frz L) i ob ∧ (i < M.nx ∨ ob = .gone) := by
  have ho := (hO i).2
  have hn := (hO i).1
  unfold frzO at h
  have hle := (frz_turn M L).le
  cases hl : lkO s.σ i <;> simp only [hl] at h ho hn <;> try (cases h; done)
  · rename_i T t x
    cases hs : subN (hot s.σ (reach s.σ t)) L <;> simp only [hs, cond_true, cond_false] at h
    · cases h
    cases hp : purify s.σ t x with
    | none => simp [hp] at h
    | some u =>
      simp only [hp, Option.some.injEq] at h
      subst h
      obtain ⟨b, cur, h1, h2, h3, h4⟩ := ho
      obtain ⟨p, _, q⟩ := purify_ok hO ((frz_sees M L).sub (subN_iff hs)) hp h4
      obtain ⟨m1, _⟩ := frz_sees M L b (heap_lt h3) (.inr ⟨i, hi, h2⟩)
      exact ⟨⟨p, b, cur.toList, h1, heap_lt h3, m1, cellsAt_whole h3, q⟩, .inl (hn.resolve_left (by simp))⟩
  · cases h
    obtain ⟨he, ad, cap, h1, h2, h3, h4⟩ := ho
    refine ⟨⟨he, ad, cap, h1, h2, h3, ?_, ?_⟩, .inl (hn.resolve_left (by simp))⟩
    · rintro rfl
      rcases h4 with ⟨_, h4⟩ | ⟨g, _, _, h4, _⟩
      · exact h4
      · cases h4
    · intro ad' had
      subst had
      rcases h4 with ⟨h4, _⟩ | ⟨g, cur, css, k1, k2, k3, k4, k5, k6⟩
      · cases h4
      · cases k1
        obtain ⟨m1, _⟩ := frz_sees M L g (heap_lt k3) (.inr ⟨i, hi, k2⟩)
        exact ⟨g, css, rfl, heap_lt k3, m1, cellsAt_of_block k3 k5, repAll_mono (fun _ _ => rep_mono hle) k6⟩
  · cases h
    obtain ⟨ht, b, cs, h1, h2, h3, h4, h5⟩ := ho
    exact ⟨⟨ht, b, cs, h1, h2, (hle.imm b h2 h3).1, h4, rep_mono hle h5⟩, .inl (hn.resolve_left (by simp))⟩
  · cases h
    obtain ⟨he, ad, cap, h1, h2, h3, h4, h5⟩ := ho
    refine ⟨⟨he, ad, cap, h1, h2, h3, h4, fun ad' had => ?_⟩, .inl (hn.resolve_left (by simp))⟩
    obtain ⟨g, css, k1, k2, k3, k4, k5⟩ := h5 ad' had
    exact ⟨g, css, k1, k2, (hle.imm g k2 k3).1, k4, repAll_mono (fun _ _ => rep_mono hle) k5⟩

theorem frzAll_spec {σ0 : Sto} {L : List Nat} : ∀ (l : List Nat) (σ σ' : Sto), frzAll σ0 L l σ = some σ' → ∀ id, (id ∈ l ∧ ∃ ob, frzO σ0 L id = some ob ∧ lkO σ' id = ob) ∨ (id ∉ l ∧ lkO σ' id = lkO σ id)
  | [], σ, σ', h, id => by simp only [frzAll, Option.some.injEq] at h; subst h; exact .inr ⟨by simp, rfl⟩
  | i :: l, σ, σ', h, id => by
    simp only [frzAll] at h
    cases ho : frzO σ0 L i with
    | none => simp [ho] at h
    | some ob =>
      simp only [ho] at h
      rcases frzAll_spec l _ σ' h id with ⟨h1, h2⟩ | ⟨h1, h2⟩
      · exact .inl ⟨List.mem_cons_of_mem _ h1, h2⟩
      · rw [lkO_cons] at h2
        by_cases hi : id = i
        · rw [if_pos hi] at h2
          subst hi
          exact .inl ⟨List.mem_cons_self, ob, ho, h2⟩
        · rw [if_neg hi] at h2
          exact .inr ⟨by simp [hi, h1], h2⟩

theorem frz_holds {st : St} {tm : Nat → Value} {av : List Value} (hI : Holds M st tm av) {l : List Nat} {s' : St} (h : st.frz l = some s') :
    Holds (M.frz (hot st.σ l)) s' tm av ∧ s'.env = st.env ∧ s'.args = st.args ∧ s'.nx = st.nx ∧ ∀ id, lkO s'.σ id ≠ lkO st.σ id → id ∈ l := by
  unfold St.frz at h
  cases hf : frzAll st.σ (hot st.σ l) (hot st.σ l) st.σ with
  | none => simp [hf] at h
  | some σ' =>
    simp only [hf, Option.some.injEq] at h
    subst h
    have hsp := frzAll_spec _ _ _ hf
    refine ⟨?_, rfl, rfl, rfl, fun id hne => ?_⟩
    · have := hI.to (frz_turn M (hot st.σ l)) (σ' := σ') (nx' := st.nx) hI.nx (fun id => ?_)
      · exact this
      · rcases hsp id with ⟨h1, ob, h2, h3⟩ | ⟨h1, h2⟩
        · obtain ⟨k1, k2⟩ := frzO_ok (s := st) hI.objs h1 h2
          refine .inr ⟨?_, by rw [h3]; exact k1⟩
          rw [h3, ← hI.nx]
          exact k2.symm
        · exact .inl ⟨h2, h1⟩
    · rcases hsp id with ⟨h1, _⟩ | ⟨_, h2⟩
      · exact (mem_hot.1 h1).1
      · exact absurd h2 hne

theorem frz_inv (hI : Inv N w0 M s a) {l : List Nat} {s' : St} (h : s.frz l = some s') : Inv N w0 (M.frz (hot s.σ l)) s' a :=
  ⟨(frz_holds hI.holds h).1, hI.frame.trans (frz_turn M _).frame, hI.defers, hI.size⟩

/-! ### A new object -/

def Mem.new (M : Mem) (v : Value) (ob : Obj) : Mem where
  φ := fun i => if i = M.nx then v else M.φ i
  nx := M.nx + 1
  own := fun b => if b = M.w.heap.size then .atl M.nx else M.own b
  w := M.w.alloc ob

theorem new_heap (w : World) (ob : Obj) : (w.alloc ob).heap[w.heap.size]? = some ob := heap_alloc_new w _
theorem old_heap (w : World) (ob : Obj) {b : Nat} (hb : b < w.heap.size) : (w.alloc ob).heap[b]? = w.heap[b]? := RowKit.Below.heap_alloc w ob b hb

theorem new_turn (M : Mem) (v : Value) (ob : Obj) : Turn M (M.new v ob) (fun _ => False) := by
  have hsz : M.w.heap.size ≤ (M.w.alloc ob).heap.size := Nat.le_of_lt (by simp)
  refine ⟨⟨Nat.le_succ _, fun i hi => by simp [Mem.new, Nat.ne_of_lt hi], fun b hb h => ⟨by simp [Mem.new, Nat.ne_of_lt hb, h], old_heap _ _ hb⟩⟩, ⟨rfl, rfl, rfl, hsz, fun b hb h => ⟨old_heap _ _ hb, by simp [Mem.new, Nat.ne_of_lt hb]⟩⟩,
    fun b hb id h _ => ⟨by simp [Mem.new, Nat.ne_of_lt hb, h], old_heap _ _ hb⟩⟩

theorem new_done (hI : Inv N w0 M s a) (hd : ∀ d, o.dst = some d → d < N) (hg : Goes N w0 quiet o s M k r K) {ob : Ob} {v : Value} {c : Obj} (h1 : v.oneCell' = true) (hob : OR (M.new v c) M.nx ob)
    (hk : k (s.new o.dst ob) = some r) : K (a.put o.dst v) (M.w.alloc c) := by
  have hnx := hI.holds.nx
  have hT := new_turn M v c
  have hI' := hI.to hT (σ' := (s.nx, ob) :: s.σ) (nx' := s.nx + 1) (by rw [← hnx]; rfl) (fun id => by
    rw [lkO_cons]
    by_cases h : id = s.nx
    · rw [if_pos h]; exact .inr ⟨.inr (by omega), by rw [h, ← hnx]; exact hob⟩
    · rw [if_neg h]; exact .inl ⟨rfl, fun h => h⟩)
  have hR : R (M.new v c) (.d (.ref s.nx) ()) v := by
    simp only [R, rep]
    exact ⟨[v], rfl, by rw [← hnx]; exact Nat.lt_succ_self _, by simp [Mem.new, ← hnx], by simp [Mem.new, ← hnx, h1]⟩
  exact hg _ (M.new v c) _ hk (hI'.put hd hR) fun _ => ⟨fun j hj => lk_put_ne hj, hT.le, by unfold St.new; cases o.dst <;> rfl, fun b hb => ⟨old_heap _ _ hb, .inl (by simp [Mem.new, Nat.ne_of_lt hb])⟩⟩

end
end Go.Lift
