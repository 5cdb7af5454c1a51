import Derived.Test.YtbdbjamebjbhnaaLStep8
set_option linter.all false
/- ALL OPERATIONS; REGIONS. -/
namespace Go.Lift

section
variable {P : Program} {C : Ctx} {N : Nat} {w0 : Entry} {M : Mem} {s : St} {a : Act} {quiet : Bool} {o : Oper} {R' : Type} {k : St → Option R'} {r : R'}
  {K : Act → World → Prop} {Q : Exit → Act → World → Prop} {w : World}

theorem step_sound (hC : CtxOk P C) (hI : Inv N w0 M s a) (hd : ∀ d, o.dst = some d → d < N) (hg : Goes N w0 quiet o s M k r K) (hqo : quiet = true → quietOp o.op = true)
    (hs : stepOp C quiet o s k = some r) : o.wp P a M.w K Q := by
  have hq : quietOp o.op = false → quiet = false := fun h => by
    cases quiet
    · rfl
    · rw [hqo rfl] at h; cases h
  cases hop : o.op with
  | move x => exact (step_move hI hd hg hop hs).wp
  | assign x => exact (step_assign hI hd hg hop hs).wp
  | pick c x y => exact (step_pick hI hd hg hop hs).wp
  | alloc T => exact step_alloc hC.toCtxOk0 hI hd hg hop hs
  | box T x => exact step_box hI hd hg hop hs
  | build T ps => exact (step_build hC.toCtxOk0 hI hd hg hop hs).wp
  | buildSlice T n ps => exact step_buildSlice hC.toCtxOk0 hI hd hg hop hs
  | load T x => exact (step_load hC.toCtxOk0 hI hd hg hop hs).wp
  | store T x y => exact step_store hC.toCtxOk0 (hq (by rw [hop]; rfl)) hI hg hop hs
  | nilCheck x => exact (step_nilCheck hI hd hg hop hs).wp
  | binOp op T x y U => exact (step_binOp hC.toCtxOk0 hI hd hg hop hs).wp
  | unOp op T x => exact (step_unOp hI hd hg hop hs).wp
  | convert S T x => exact (step_convert hC.toCtxOk0 hI hd hg hop hs).wp
  | makeFunc fn first caps =>
    cases fn with
    | func f => exact (step_makeFunc hI hd hg hop hs).wp
    | _ => unfold stepOp at hs; simp only [hop] at hs; cases hs
  | makeSlice T n m => exact step_makeSlice hC.toCtxOk0 hI hd hg hop hs
  | slice S x lo hi mx => exact (step_slice hC.toCtxOk0 hI hd hg hop hs).wp
  | fieldAddr S x f => exact (step_fieldAddr hC.toCtxOk0 hI hd hg hop hs).wp
  | field S x f => exact (step_field hC.toCtxOk0 hI hd hg hop hs).wp
  | indexAddr S x i => exact (step_indexAddr hC.toCtxOk0 hI hd hg hop hs).wp
  | index S x i => exact (step_index hC.toCtxOk0 hI hd hg hop hs).wp
  | extract x i =>
    cases x with
    | tmp s => exact (step_extract hI hd hg hop hs).wp
    | _ => unfold stepOp at hs; simp only [hop] at hs; cases hs
  | call c =>
    obtain ⟨callee, args, Ts⟩ := c
    cases callee with
    | value f => exact step_call hC hI hd hg hop hs
    | invoke x m => unfold stepOp at hs; simp only [hop] at hs; cases hs
    | builtin b =>
      cases b with
      | len => exact (step_len hC.toCtxOk0 hI hd hg hop hs).wp
      | max => exact (step_max hI hd hg hop hs).wp
      | min => exact (step_min hI hd hg hop hs).wp
      | append => exact step_append hC.toCtxOk0 (hq (by rw [hop]; rfl)) hI hd hg hop hs
      | copy => exact step_copy hC.toCtxOk0 (hq (by rw [hop]; rfl)) hI hd hg hop hs
      | clear => exact step_clear hC.toCtxOk0 (hq (by rw [hop]; rfl)) hI hd hg hop hs
      | _ =>
        unfold stepOp at hs
        simp only [hop] at hs
        first | (cases hs; done) | (split at hs <;> first | (cases hs; done) | (rename_i h _ _; cases h; done) | (rename_i h _; cases h; done))
  | _ => unfold stepOp at hs; simp only [hop] at hs; cases hs

theorem step_still (hC : CtxOk P C) (hI : Inv N w0 M s a) (hd : ∀ d, o.dst = some d → d < N) (hg : Goes N w0 quiet o s M k r K) (hso : stillOp o.op = true)
    (hs : stepOp C quiet o s k = some r) : StillWp P o a M.w K := by
  cases hop : o.op with
  | move x => exact step_move hI hd hg hop hs
  | assign x => exact step_assign hI hd hg hop hs
  | pick c x y => exact step_pick hI hd hg hop hs
  | build T ps => exact step_build hC.toCtxOk0 hI hd hg hop hs
  | load T x => exact step_load hC.toCtxOk0 hI hd hg hop hs
  | nilCheck x => exact step_nilCheck hI hd hg hop hs
  | binOp op T x y U => exact step_binOp hC.toCtxOk0 hI hd hg hop hs
  | unOp op T x => exact step_unOp hI hd hg hop hs
  | convert S T x => exact step_convert hC.toCtxOk0 hI hd hg hop hs
  | makeFunc fn first caps =>
    cases fn with
    | func f => exact step_makeFunc hI hd hg hop hs
    | _ => rw [hop] at hso; cases hso
  | slice S x lo hi mx => exact step_slice hC.toCtxOk0 hI hd hg hop hs
  | fieldAddr S x f => exact step_fieldAddr hC.toCtxOk0 hI hd hg hop hs
  | field S x f => exact step_field hC.toCtxOk0 hI hd hg hop hs
  | indexAddr S x i => exact step_indexAddr hC.toCtxOk0 hI hd hg hop hs
  | index S x i => exact step_index hC.toCtxOk0 hI hd hg hop hs
  | extract x i =>
    cases x with
    | tmp s => exact step_extract hI hd hg hop hs
    | _ => rw [hop] at hso; cases hso
  | call c =>
    obtain ⟨callee, args, Ts⟩ := c
    cases callee with
    | builtin b =>
      cases b with
      | len => exact step_len hC.toCtxOk0 hI hd hg hop hs
      | max => exact step_max hI hd hg hop hs
      | min => exact step_min hI hd hg hop hs
      | _ => rw [hop] at hso; cases hso
    | _ => rw [hop] at hso; cases hso
  | _ => rw [hop] at hso; cases hso

/-- The slots but the operation's own are as they were. -/
theorem wp_put {o : Oper} {a : Act} {w : World} {K : Act → World → Prop} (h : o.wp P a w K Q) : o.wp P a w (fun a' w' => K a' w' ∧ ∀ k, o.dst ≠ some k → tmv a' k = tmv a k) Q := by
  have hp : ∀ (a1 : Act) (v : Value), a1.tmps = a.tmps → ∀ k, o.dst ≠ some k → tmv (a1.put o.dst v) k = tmv a k := fun a1 v e k hk => by
    cases hd : o.dst with
    | none => simp [Act.put, tmv, e]
    | some d =>
      have hdk : d ≠ k := fun e => hk (by rw [hd, e])
      simp [Act.put, tmv, e, Array.getElem?_setIfInBounds_ne hdk]
  unfold Oper.wp at *
  generalize (execOp a.eval o).run P w = r at *
  cases r with
  | ok n w' =>
    cases n <;> simp only [Oper.upon] at h ⊢ <;> first
      | exact h
      | exact ⟨h, hp _ _ rfl⟩
      | exact Calls.mono h (fun e w'' he => by cases e <;> first | exact ⟨he, hp _ _ rfl⟩ | exact he)
      | exact Rows.mono h (fun v w'' he => ⟨he, hp _ _ rfl⟩)
  | halt x w' => cases x <;> simp only [Oper.upon] at h ⊢ <;> exact h

/-! ### A region -/

/-- What quiet operations that write at most the slots D leave alone. -/
structure Quiets (D : List Nat) (s : St) (M : Mem) (a : Act) (s' : St) (M' : Mem) (a' : Act) : Prop where
  slots : ∀ j, j ∉ D → lk s'.env j = lk s.env j
  tm : ∀ j, j ∉ D → tmv a' j = tmv a j
  blocks : ∀ b, b < M.w.heap.size → M'.w.heap[b]? = M.w.heap[b]? ∧ LabTo (M.own b) (M'.own b)

theorem size_of_blocks {w w' : World} (h : ∀ b, b < w.heap.size → w'.heap[b]? = w.heap[b]?) : w.heap.size ≤ w'.heap.size := by
  rcases Nat.lt_or_ge w'.heap.size w.heap.size with h' | h'
  · have := h _ h'
    rw [Array.getElem?_eq_none (Nat.le_refl _), Array.getElem?_eq_getElem h'] at this
    cases this
  · exact h'

theorem Quiets.refl (D : List Nat) : Quiets D s M a s M a := ⟨fun _ _ => rfl, fun _ _ => rfl, fun _ _ => ⟨rfl, .inl rfl⟩⟩

theorem Quiets.trans {D D1 D2 : List Nat} {s1 s2 : St} {M1 M2 : Mem} {a1 a2 : Act} (h : Quiets D1 s M a s1 M1 a1) (h' : Quiets D2 s1 M1 a1 s2 M2 a2) (h1 : ∀ j, j ∉ D → j ∉ D1) (h2 : ∀ j, j ∉ D → j ∉ D2) : Quiets D s M a s2 M2 a2 :=
  ⟨fun j hj => (h'.slots j (h2 j hj)).trans (h.slots j (h1 j hj)), fun j hj => (h'.tm j (h2 j hj)).trans (h.tm j (h1 j hj)), fun b hb => by
    obtain ⟨e1, e2⟩ := h.blocks b hb
    obtain ⟨e3, e4⟩ := h'.blocks b (Nat.lt_of_lt_of_le hb (size_of_blocks fun b hb => (h.blocks b hb).1))
    exact ⟨e3.trans e1, e2.trans e4⟩⟩

/-- The memory, without what has come since. -/
def Mem.roll (M M' : Mem) : Mem where
  φ := M.φ
  nx := M.nx
  own := fun b => if b < M.w.heap.size then M.own b else .alien
  w := M'.w

theorem lk_killed (k : Nat) : ∀ (l : List Nat) (env : Env), (k ∈ l ∧ lk (killed l env) k = .undef) ∨ (k ∉ l ∧ lk (killed l env) k = lk env k)
  | [], env => .inr ⟨by simp, rfl⟩
  | d :: l, env => by
    simp only [killed, lk_cons]
    by_cases h : k = d
    · exact .inl ⟨by simp [h], by rw [if_pos h]⟩
    · rw [if_neg h]
      rcases lk_killed k l env with ⟨h1, h2⟩ | ⟨h1, h2⟩
      · exact .inl ⟨by simp [h1], h2⟩
      · exact .inr ⟨by simp [h, h1], h2⟩

/-- What came since is forgotten. -/
theorem Inv.roll (hI : Inv N w0 M s a) {D : List Nat} {M' : Mem} {a' : Act} (ht : ∀ j, j ∉ D → tmv a' j = tmv a j) (hb : ∀ b, b < M.w.heap.size → M'.w.heap[b]? = M.w.heap[b]?)
    (hF : Go.Lift.Frame w0.toWorld w0.own M'.w M'.own) (h1 : a'.defers = []) (h2 : a'.tmps.size = N) : Inv N w0 (M.roll M') (s.kill D) a' := by
  have hsz := size_of_blocks hb
  have hle : M.le (M.roll M') := ⟨Nat.le_refl _, fun _ _ => rfl, fun b hb' h => ⟨by simp [Mem.roll, hb', h], hb b hb'⟩⟩
  refine ⟨⟨fun j => ?_, RC_mono hle _ _ hI.holds.args, fun id => ⟨(hI.holds.objs id).1, ?_⟩, hI.holds.nx⟩, ⟨hF.os, hF.tape, hF.output, hF.size, fun b hb' ho => ?_⟩, h1, h2⟩
  · show R _ (lk (killed D s.env) j) _
    rcases lk_killed j D s.env with ⟨_, e⟩ | ⟨e1, e⟩
    · rw [e]; simp [R]
    · rw [e, ht j e1]; exact R_mono hle _ _ (hI.holds.slots j)
  · rcases (hI.holds.objs id).1 with h | h
    · show OR _ id (lkO s.σ id)
      rw [h]; trivial
    · exact OR_keep hle h (fun b hb' ho => ⟨by simp [Mem.roll, hb', ho], hb b hb'⟩) (hI.holds.objs id).2
  · have hlt : b < M.w.heap.size := Nat.lt_of_lt_of_le hb' hI.frame.size
    obtain ⟨e1, e2⟩ := hI.frame.block b hb' ho
    exact ⟨(hb b hlt).trans e1, by simp [Mem.roll, hlt, e2]⟩

theorem mem_dsts {o : Oper} {d : Nat} : ∀ {l : List Oper}, o ∈ l → o.dst = some d → d ∈ dsts l
  | [], h, _ => by simp at h
  | o' :: l, h, hd => by
    unfold dsts
    rcases List.mem_cons.1 h with rfl | h
    · rw [hd]; simp
    · have := mem_dsts h hd
      cases o'.dst <;> simp [this]

theorem dsts_cons (o : Oper) (l : List Oper) : dsts (o :: l) = dsts [o] ++ dsts l := by
  simp only [dsts]
  cases o.dst <;> simp

theorem dsts_append : ∀ (l l' : List Oper), dsts (l ++ l') = dsts l ++ dsts l'
  | [], l' => rfl
  | o :: l, l' => by rw [List.cons_append, dsts_cons, dsts_cons o l, dsts_append l l', List.append_assoc]

theorem sameGuard_eq {g h : Option (Nat × Bool)} (e : sameGuard g h = true) : g = h := by
  cases g with
  | none => cases h <;> first | rfl | simp [sameGuard] at e
  | some p =>
    cases h with
    | none => simp [sameGuard] at e
    | some q =>
      obtain ⟨i, a⟩ := p
      obtain ⟨j, b⟩ := q
      simp only [sameGuard, Bool.and_eq_true, beq_iff_eq, Nat.beq_eq] at e
      rw [e.1, e.2]

/-- The slot of a guard holds this truth value. -/
theorem yielded_of {ops : Array Oper} {j jd : Nat} {b : Bool} (hj : (ops[j]?).bind (·.dst) = some jd) (h : tmv a jd = .bool b) : yielded ops a.tmps j = some b := by
  unfold yielded
  simp only [hj, Option.bind_some]
  cases ht : a.tmps[jd]? with
  | none => simp [tmv, ht] at h; cases h
  | some v =>
    have : v = .bool b := by simpa [tmv, ht] using h
    rw [this]

theorem yielded_undef {ops : Array Oper} {j jd : Nat} (hj : (ops[j]?).bind (·.dst) = some jd) (h : tmv a jd = Go.undef) : yielded ops a.tmps j = none := by
  unfold yielded
  simp only [hj, Option.bind_some]
  cases ht : a.tmps[jd]? with
  | none => rfl
  | some v =>
    have : v = Go.undef := by simpa [tmv, ht] using h
    rw [this]
    rfl

theorem split_spec (ops : Array Oper) (j : Nat) (want : Bool) : ∀ (l : List Oper) (acc : List Nat), (splitGroup ops j want acc l).1 ++ (splitGroup ops j want acc l).2 = l
  | [], acc => rfl
  | o :: l, acc => by
    simp only [splitGroup]
    cases hg : o.guard with
    | none => rfl
    | some p =>
      obtain ⟨i, wt⟩ := p
      simp only
      cases inGrp ops j want acc i wt
      · rfl
      · simp only [cond_true, List.cons_append]
        rw [split_spec ops j want l (dsts [o] ++ acc)]

/-- A group whose guard says no is passed over. -/
theorem skip_group {ops : Array Oper} {j jd : Nat} {want : Bool} (hj : (ops[j]?).bind (·.dst) = some jd) {tail : List Oper} : ∀ (l : List Oper) (acc : List Nat) (a : Act), a.tmps.size = N → a.defers = [] →
    (∀ o, o ∈ (splitGroup ops j want acc l).1 → ∀ d, o.dst = some d → d < N) → jd ∉ dsts (splitGroup ops j want acc l).1 → tmv a jd = .bool (!want) → (∀ d, d ∈ acc → tmv a d = Go.undef) →
    (∀ a', a'.tmps.size = N → a'.defers = [] → (∀ k, k ∉ dsts (splitGroup ops j want acc l).1 → tmv a' k = tmv a k) → wpList P ops Q tail a' w) →
    wpList P ops Q ((splitGroup ops j want acc l).1 ++ tail) a w
  | [], acc, a, hsz, hdf, _, _, _, _, h => by
    simp only [splitGroup, List.nil_append]
    exact h a hsz hdf fun k _ => rfl
  | o :: l, acc, a, hsz, hdf, hd, hjd, ht, hacc, h => by
    simp only [splitGroup] at hd hjd h ⊢
    cases hg : o.guard with
    | none =>
      simp only [hg] at h ⊢
      exact h a hsz hdf fun k _ => rfl
    | some p =>
      obtain ⟨i, wt⟩ := p
      simp only [hg] at hd hjd h ⊢
      cases hc : inGrp ops j want acc i wt
      · simp only [hc, cond_false] at hd hjd h ⊢
        exact h a hsz hdf fun k _ => rfl
      · simp only [hc, cond_true] at hd hjd h ⊢
        rw [dsts_cons] at hjd
        rw [List.cons_append]
        have hunw : Region.wanted o (yielded ops a.tmps) = false := by
          unfold Region.wanted
          rw [hg]
          simp only [inGrp, Bool.or_eq_true, Bool.and_eq_true, beq_iff_eq, Nat.beq_eq] at hc
          rcases hc with ⟨rfl, rfl⟩ | hc
          · simp only [yielded_of hj ht]
            cases wt <;> rfl
          · cases hdi : (ops[i]?).bind (·.dst) with
            | none => rw [hdi] at hc; cases hc
            | some d =>
              rw [hdi] at hc
              simp only [yielded_undef hdi (hacc d (memN_iff.1 hc))]
              rfl
        refine wpList_step fun K hK => ?_
        rw [hunw]
        simp only [Bool.false_eq_true, if_false]
        refine hK _ _ ?_
        cases hdst : o.dst with
        | none =>
          have hds : dsts [o] = [] := by simp [dsts, hdst]
          have e1 : dsts [o] ++ acc = acc := by rw [hds]; rfl
          rw [e1] at hd hjd h ⊢
          refine skip_group hj l acc a hsz hdf (fun o' ho' => hd o' (List.mem_cons_of_mem _ ho')) (fun e => hjd (List.mem_append_right _ e)) ht hacc fun a' h1 h2 hk => h a' h1 h2 fun k hk' => ?_
          rw [dsts_cons, hds, List.nil_append] at hk'
          exact hk k hk'
        | some d =>
          have hds : dsts [o] = [d] := by simp [dsts, hdst]
          rw [hds] at hd hjd h ⊢
          have hdN := hd o (by simp) d hdst
          have hjd' : jd ≠ d := fun e => hjd (by simp [e])
          have htm : ∀ k, tmv (a.put (some d) Go.undef) k = if k = d then Go.undef else tmv a k := fun k => tmv_put (by rw [hsz]; exact hdN) k
          refine skip_group hj l ([d] ++ acc) _ (by simp [Act.put, hsz]) (by simp [Act.put, hdf]) (fun o' ho' => hd o' (List.mem_cons_of_mem _ ho')) (fun e => hjd (List.mem_append_right _ e)) (by rw [htm, if_neg hjd']; exact ht) (fun d' hd' => ?_)
            fun a' h1 h2 hk => h a' h1 h2 fun k hk' => ?_
          · rw [htm]
            by_cases e : d' = d
            · rw [if_pos e]
            · rw [if_neg e]; exact hacc d' (by simpa [e] using hd')
          · rw [dsts_cons, hds] at hk'
            rw [hk k (fun e => hk' (List.mem_append_right _ e)), htm, if_neg (fun e => hk' (List.mem_append_left _ (by simp [e])))]

/-- The operations run under this guard. -/
def GuardOn (ops : Array Oper) (g : Option (Nat × Bool)) (l : List Oper) (env : Env) : Prop :=
  ∀ j want, g = some (j, want) → ∃ jd, (ops[j]?).bind (·.dst) = some jd ∧ lk env jd = .d .bool want ∧ jd ∉ dsts l

theorem bool?_eq {av : AV} {b : Bool} (h : av.bool? = some b) : av = .d .bool b := by
  unfold AV.bool? at h
  split at h <;> cases h
  rfl

theorem bool_slot (hI : Inv N w0 M s a) {j : Nat} {b : Bool} (h : lk s.env j = .d .bool b) : tmv a j = .bool b :=
  bool_ok hI (x := .tmp j) (by simp only [ev, h]; rfl)

/-- A region whose operations run in the order of the text. -/
theorem run_sound (hC : CtxOk P C) {ops : Array Oper} : ∀ (n : Nat) (quiet : Bool) (g : Option (Nat × Bool)) (l : List Oper) (s : St) {R : Type} (k : St → Option R) (r : R) (M : Mem) (a : Act) (tail : List Oper),
    runOps C ops n quiet g l s k = some r → Inv N w0 M s a → (∀ o, o ∈ l → ∀ d, o.dst = some d → d < N) → GuardOn ops g l s.env → (g ≠ none → quiet = true) →
    (∀ s' M' a', k s' = some r → Inv N w0 M' s' a' → (quiet = true → Quiets (dsts l) s M a s' M' a') → wpList P ops Q tail a' M'.w) → wpList P ops Q (l ++ tail) a M.w
  | 0, _, _, _, _, _, _, _, _, _, _, h, _, _, _, _, _ => by simp [runOps] at h
  | n + 1, quiet, g, [], s, _, k, r, M, a, tail, h, hI, _, _, _, hk => by
    simp only [runOps] at h
    exact hk s M a h hI (fun _ => Quiets.refl _)
  | n + 1, quiet, g, o :: rest, s, _, k, r, M, a, tail, h, hI, hd, hg, hgq, hk => by
    simp only [runOps] at h
    cases hsg : sameGuard o.guard g <;> simp only [hsg, cond_true, cond_false] at h
    · -- a group
      cases hgd : o.guard with
      | none => simp [hgd] at h
      | some p0 =>
      obtain ⟨j, want⟩ := p0
      simp only [hgd] at h
      cases hj : (ops[j]?).bind (·.dst) with
      | none => simp [hj] at h
      | some jd =>
      simp only [hj] at h
      cases hb : (lk s.env jd).bool? with
      | none => simp [hb] at h
      | some b =>
      simp only [hb] at h
      have hjl := bool?_eq hb
      obtain ⟨grp, hgrp⟩ : ∃ grp, grp = (splitGroup ops j want [] (o :: rest)).1 := ⟨_, rfl⟩
      have hspec := split_spec ops j want (o :: rest) []
      cases hsp : splitGroup ops j want [] (o :: rest) with
      | mk g1 g2 =>
      cases g2 with
      | nil => simp [hsp] at h
      | cons p rest' =>
      simp only [hsp] at h hspec hgrp
      subst hgrp
      cases hp : p.op <;> simp only [hp] at h <;> try (cases h; done)
      rename_i c x y
      cases hdst : p.dst with
      | none => simp [hdst] at h
      | some d =>
      cases c <;> simp only [hdst] at h <;> try (cases h; done)
      rename_i c
      cases hc : (sameGuard p.guard g && Nat.beq c jd && !memN jd (dsts grp)) <;> simp only [hc, cond_true, cond_false] at h
      · cases h
      simp only [Bool.and_eq_true, Bool.not_eq_true', Nat.beq_eq] at hc
      obtain ⟨⟨hpg, rfl⟩, hjm⟩ := hc
      have hpg := sameGuard_eq hpg
      have hjm : c ∉ dsts grp := fun e => by rw [memN_iff.2 e] at hjm; cases hjm
      rw [← hspec, List.append_assoc, List.cons_append]
      rw [← hspec] at hd
      have hdg : ∀ o, o ∈ grp → ∀ d, o.dst = some d → d < N := fun o ho => hd o (List.mem_append_left _ ho)
      have hdp : ∀ d, p.dst = some d → d < N := hd p (List.mem_append_right _ List.mem_cons_self)
      have hdr : ∀ o, o ∈ rest' → ∀ d, o.dst = some d → d < N := fun o ho => hd o (List.mem_append_right _ (List.mem_cons_of_mem _ ho))
      have hkill : ∀ j, j ∉ dsts grp → lk (s.kill (dsts grp)).env j = lk s.env j := fun j hj => by
        show lk (killed (dsts grp) s.env) j = _
        rcases lk_killed j (dsts grp) s.env with ⟨e, _⟩ | ⟨_, e⟩
        · exact absurd e hj
        · exact e
      -- behind the group: the pick, and the rest
      have behind : ∀ (M1 : Mem) (a1 : Act) (rb : Bool), Inv N w0 M1 (s.kill (dsts grp)) a1 → Quiets (dsts grp) s M a (s.kill (dsts grp)) M1 a1 → a1.eval (if b then x else y) = .bool rb →
          runOps C ops n quiet g rest' (s.ask grp d rb) k = some r → wpList P ops Q (p :: (rest' ++ tail)) a1 M1.w := by
        intro M1 a1 rb hI1 hq1 hev hrun
        have hjl1 : lk (s.kill (dsts grp)).env c = .d .bool b := by rw [hkill c hjm]; exact hjl
        have hwp : Region.wanted p (yielded ops a1.tmps) = true := by
          unfold Region.wanted
          rw [hpg]
          cases g with
          | none => rfl
          | some gw =>
            obtain ⟨gj, gwant⟩ := gw
            obtain ⟨gd, e1, e2, e3⟩ := hg gj gwant rfl
            rw [← hspec, dsts_append] at e3
            have : lk (s.kill (dsts grp)).env gd = .d .bool gwant := by rw [hkill gd (fun e => e3 (List.mem_append_left _ e))]; exact e2
            simp only [yielded_of e1 (bool_slot hI1 this)]
            cases gwant <;> rfl
        refine wpList_step fun K hK => ?_
        rw [hwp]
        simp only [if_true]
        have hcv : a1.eval (.tmp c) = .bool b := bool_slot hI1 hjl1
        have hexec : (execOp a1.eval p).run P M1.w = .ok (.value (.bool rb)) M1.w := by
          simp only [execOp, hp, Sem.run_bind, hcv, asBool, Sem.run_pure, Result.andThen_ok]
          cases b
          · simpa using hev
          · simpa using hev
        refine wp_value hexec (hK _ _ ?_)
        have hI2 : Inv N w0 M1 (s.ask grp d rb) (a1.put p.dst (.bool rb)) := by
          have := hI1.put (d := p.dst) (av := .d .bool rb) (v := .bool rb) hdp (by simp only [R]; exact ⟨[.bool rb], rfl, rfl⟩)
          rw [hdst] at this ⊢
          exact this
        have hq2 : Quiets (dsts (grp ++ [p])) s M a (s.ask grp d rb) M1 (a1.put p.dst (.bool rb)) := by
          have hmem : ∀ j, j ∉ dsts (grp ++ [p]) → j ∉ dsts grp ∧ j ≠ d := fun j hj => by
            rw [dsts_append] at hj
            exact ⟨fun e => hj (List.mem_append_left _ e), fun e => hj (List.mem_append_right _ (by simp [dsts, hdst, e]))⟩
          refine ⟨fun j hj => ?_, fun j hj => ?_, hq1.blocks⟩
          · obtain ⟨h1, h2⟩ := hmem j hj
            show lk ((d, .d .bool rb) :: killed (dsts grp) s.env) j = _
            rw [lk_cons, if_neg h2]
            exact hkill j h1
          · obtain ⟨h1, h2⟩ := hmem j hj
            rw [hdst, tmv_put (by rw [hI1.size]; exact hdp d hdst), if_neg h2]
            exact hq1.tm j h1
        have hlk2 : ∀ j, j ∉ dsts (grp ++ p :: rest') → lk (s.ask grp d rb).env j = lk s.env j := fun j hj => by
          refine hq2.slots j fun e => hj ?_
          rw [dsts_append] at e ⊢
          rw [dsts_cons p rest']
          rcases List.mem_append.1 e with e | e
          · exact List.mem_append_left _ e
          · exact List.mem_append_right _ (List.mem_append_left _ e)
        refine run_sound hC n quiet g rest' _ k r M1 _ tail hrun hI2 hdr ?_ hgq (fun s' M' a' e1 e2 e3 => hk s' M' a' e1 e2 fun hq => ?_)
        · intro gj gwant hgw
          obtain ⟨gd, e1, e2, e3⟩ := hg gj gwant hgw
          rw [← hspec] at e3
          refine ⟨gd, e1, by rw [hlk2 gd e3]; exact e2, fun e => e3 ?_⟩
          rw [dsts_append, dsts_cons]
          exact List.mem_append_right _ (List.mem_append_right _ e)
        · rw [← hspec]
          refine hq2.trans (e3 hq) (fun j hj e => hj ?_) (fun j hj e => hj ?_)
          · rw [dsts_append] at e ⊢
            rw [dsts_cons p rest']
            rcases List.mem_append.1 e with e | e
            · exact List.mem_append_left _ e
            · exact List.mem_append_right _ (List.mem_append_left _ e)
          · rw [dsts_append, dsts_cons p rest']
            exact List.mem_append_right _ (List.mem_append_right _ e)
      -- the group runs
      have runs : ∀ (z : Operand) (rb : Bool), b = want → runOps C ops n true (some (j, want)) grp s (fun s' => (ev s' z).bool?) = some rb → z = (if b then x else y) →
          runOps C ops n quiet g rest' (s.ask grp d rb) k = some r → wpList P ops Q (grp ++ (p :: (rest' ++ tail))) a M.w := by
        intro z rb hbw hr1 hz hr2
        subst hbw
        refine run_sound hC n true (some (j, b)) grp s _ rb M a _ hr1 hI hdg (fun j' want' e => ?_) (fun _ => rfl) (fun s' M' a' e1 e2 e3 => ?_)
        · cases e; exact ⟨c, hj, hjl, hjm⟩
        · have hq := e3 rfl
          have hI1 := hI.roll (D := dsts grp) (M' := M') (a' := a') hq.tm (fun b hb => (hq.blocks b hb).1) e2.frame e2.defers e2.size
          refine behind (M.roll M') a' rb hI1 ⟨hkill, hq.tm, fun b hb => ⟨(hq.blocks b hb).1, .inl (by simp [Mem.roll, hb])⟩⟩ (by rw [← hz]; exact bool_ok e2 e1) hr2
      -- the group is passed over
      have skips : ∀ (z : Operand) (rb : Bool), b = !want → (ev (s.kill (dsts grp)) z).bool? = some rb → z = (if b then x else y) →
          runOps C ops n quiet g rest' (s.ask grp d rb) k = some r → wpList P ops Q (grp ++ (p :: (rest' ++ tail))) a M.w := by
        intro z rb hbw hr1 hz hr2
        have hs := skip_group (N := N) (w := M.w) (P := P) (Q := Q) hj (tail := p :: (rest' ++ tail)) (want := want) (o :: rest) [] a hI.size hI.defers
        rw [hsp] at hs
        refine hs hdg hjm (by rw [← hbw]; exact bool_slot hI hjl) (fun _ h => by simp at h) (fun a1 k1 k2 k3 => ?_)
        have hI1 := hI.roll (D := dsts grp) (M' := M) (a' := a1) k3 (fun _ _ => rfl) hI.frame k2 k1
        exact behind (M.roll M) a1 rb hI1 ⟨hkill, k3, fun b hb => ⟨rfl, .inl (by simp [Mem.roll, hb])⟩⟩ (by rw [← hz]; exact bool_ok hI1 hr1) hr2
      rw [Option.bind_eq_some_iff] at h
      obtain ⟨rb, h1, h2⟩ := h
      cases want <;> cases b <;> simp only [cond_true, cond_false] at h1
      · exact runs y rb rfl h1 rfl h2
      · exact skips x rb rfl h1 rfl h2
      · exact skips y rb rfl h1 rfl h2
      · exact runs x rb rfl h1 rfl h2
    · -- a single operation
      cases hq : (!quiet || quietOp o.op) <;> simp only [hq, cond_true, cond_false] at h
      · cases h
      have hgeq := sameGuard_eq hsg
      have hw : Region.wanted o (yielded ops a.tmps) = true := by
        unfold Region.wanted
        rw [hgeq]
        cases g with
        | none => rfl
        | some gw =>
          obtain ⟨gj, gwant⟩ := gw
          obtain ⟨gd, e1, e2, _⟩ := hg gj gwant rfl
          simp only [yielded_of e1 (bool_slot hI e2)]
          cases gwant <;> rfl
      rw [List.cons_append]
      refine wpList_step fun K hK => ?_
      rw [hw]
      simp only [if_true]
      have hne : ∀ j, j ∉ dsts (o :: rest) → o.dst ≠ some j := fun j hj e => hj (by rw [dsts_cons]; exact List.mem_append_left _ (by simp [dsts, e]))
      have hstep := step_sound (Q := Q) (K := fun a' w' => (∀ k, o.dst ≠ some k → tmv a' k = tmv a k) → wpList P ops Q (rest ++ tail) a' w') hC hI (hd o List.mem_cons_self) (fun s' M' a' h1 h2 h3 ht => by
        refine run_sound hC n quiet g rest s' k r M' a' tail h1 h2 (fun o' ho' => hd o' (List.mem_cons_of_mem _ ho')) ?_ hgq (fun s'' M'' a'' e1 e2 e3 => hk s'' M'' a'' e1 e2 fun hq' => ?_)
        · intro gj gwant hgw
          obtain ⟨gd, e1, e2, e3⟩ := hg gj gwant hgw
          have hq' := hgq (by rw [hgw]; simp)
          refine ⟨gd, e1, by rw [(h3 hq').slots gd (hne gd e3)]; exact e2, fun e => e3 ?_⟩
          rw [dsts_cons]
          exact List.mem_append_right _ e
        · have h3 := h3 hq'
          refine Quiets.trans (D1 := dsts [o]) ⟨fun j hj => h3.slots j fun e => hj (by simp [dsts, e]), fun j hj => ht j fun e => hj (by simp [dsts, e]), h3.blocks⟩ (e3 hq') (fun j hj e => hj ?_) (fun j hj e => hj ?_)
          · rw [dsts_cons]; exact List.mem_append_left _ e
          · rw [dsts_cons]; exact List.mem_append_right _ e) (fun e => by rw [e] at hq; simpa using hq) h
      exact Oper.wp_mono (fun a' w' hh => hK _ _ (hh.1 hh.2)) (wp_put hstep)

end
end Go.Lift
