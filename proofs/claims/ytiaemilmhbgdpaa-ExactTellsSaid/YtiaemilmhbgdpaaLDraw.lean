import Derived.Test.YtiaemilmhbgdpaaLReg
import Derived.OrdersHeld
set_option linter.all false
/- REGIONS THAT DRAW THEIR ORDER. -/
namespace Go.Lift

/-- What was taken ahead of its time, and what must hold until it comes. -/
abbrev Pend := Nat → (World → Prop) → Prop

section
variable {P : Program} {ops : Array Oper} {Q : Exit → Act → World → Prop} {md : Region.Mode}

/-- Operation j waits for operation m. -/
def Waits (md : Region.Mode) (ops : Array Oper) (j m : Nat) : Prop := ∃ oj, ops[j]? = some oj ∧ ∃ e, e ∈ oj.after ∧ Region.binds md e = true ∧ e.on = m

/-- Without those that operation i waits for. -/
def Pend.drop (p : Pend) (md : Region.Mode) (ops : Array Oper) (i : Nat) : Pend := fun m S => p m S ∧ ¬ Waits md ops i m
def Pend.add (p : Pend) (i : Nat) (S0 : World → Prop) : Pend := fun m S => (m = i ∧ S = S0) ∨ p m S

/-- Whatever order is picked from here on; what was taken ahead of its time (pend) keeps its condition behind each operation, up to one that waits for it. -/
def wpAnyP (P : Program) (md : Region.Mode) (ops : Array Oper) (Q : Exit → Act → World → Prop) : Nat → Array Bool → Pend → Act → World → Prop
  | 0, listed, _, a, w => Region.ready md ops listed = [] ∧ Q .normal a w
  | fuel + 1, listed, pend, a, w =>
    (Region.ready md ops listed = [] → Q .normal a w) ∧
    ∀ i ∈ Region.ready md ops listed, wpOp P ops Q i (fun a' w' => (∀ m S, pend m S → ¬ Waits md ops i m → S w → S w') ∧ wpAnyP P md ops Q fuel (listed.setIfInBounds i true) (pend.drop md ops i) a' w') a w

theorem wpAnyP_less : ∀ (fuel : Nat) (listed : Array Bool) {pend pend' : Pend} (_ : ∀ m S, pend m S → pend' m S) (a : Act) (w : World), wpAnyP P md ops Q fuel listed pend' a w → wpAnyP P md ops Q fuel listed pend a w
  | 0, _, _, _, _, _, _, h => h
  | fuel + 1, _, _, _, hp, _, _, h => ⟨h.1, fun i hi => wpOp_mono (fun a' w' h' => ⟨fun m S hm => h'.1 m S (hp _ _ hm), wpAnyP_less fuel _ (fun m S hm => ⟨hp _ _ hm.1, hm.2⟩) a' w' h'.2⟩) (h.2 i hi)⟩

theorem wpAny_of_P : ∀ (fuel : Nat) (listed : Array Bool) {pend : Pend} (a : Act) (w : World), wpAnyP P md ops Q fuel listed pend a w → wpAny P md ops Q fuel listed a w
  | 0, _, _, _, _, h => h
  | fuel + 1, _, _, _, _, h => ⟨h.1, fun i hi => wpOp_mono (fun a' w' h' => wpAny_of_P fuel _ a' w' h'.2) (h.2 i hi)⟩

theorem wpAnyP_first {i : Nat} {oi : Oper} {v : Value} {S : World → Prop} (hi : ops[i]? = some oi) (hsel : ∀ (j : Nat) (o : Oper) cs b, ops[j]? = some o → o.op ≠ .select cs b)
    (hQ : ∀ c a w, Q (.panic c) (a.put oi.dst v) w → Q (.panic c) a w) :
    ∀ (fuel : Nat) (listed : Array Bool) (pend : Pend) (a : Act) (w : World),
      (∀ j oj, ops[j]? = some oj → j ≠ i → listed.getD j true = false → (∀ e ∈ oj.after, Region.binds md e = true → e.on ≠ i) → oi.apart ops oj = true) →
      i ∈ Region.ready md ops listed → YieldsIf P ops S oi v a → S w →
      wpAnyP P md ops Q fuel (listed.setIfInBounds i true) (pend.add i S) (a.put oi.dst v) w → wpAnyP P md ops Q (fuel + 1) listed pend a w := by
  intro fuel
  induction fuel with
  | zero =>
    intro listed pend a w _ hr hy hS H
    refine ⟨fun h => (by rw [h] at hr; cases hr), fun j hj => ?_⟩
    by_cases hji : j = i
    · subst hji; exact hy.wpOp hi hS ⟨fun _ _ _ _ h => h, H⟩
    · have := ready_mono hj hji
      rw [H.1] at this
      cases this
  | succ fuel ih =>
    intro listed pend a w hfree hr hy hS H
    refine ⟨fun h => (by rw [h] at hr; cases hr), fun j hj => ?_⟩
    by_cases hji : j = i
    · subst hji
      exact hy.wpOp hi hS ⟨fun _ _ _ _ h => h, wpAnyP_less _ _ (fun m S hx => .inr hx.1) _ _ H⟩
    · have h1 := H.2 j (ready_mono hj hji)
      obtain ⟨hjun, oj, hoj, hall⟩ := mem_ready.1 hj
      have hnot : ∀ e ∈ oj.after, Region.binds md e = true → e.on ≠ i := fun e he hb heq => by
        have h1 := hall e he hb
        have h0 := (mem_ready.1 hr).1
        rw [heq] at h1
        rcases Nat.lt_or_ge i listed.size with h' | h'
        · simp [h'] at h0 h1; rw [h0] at h1; cases h1
        · simp [Array.getElem?_eq_none h'] at h1
      have hnw : ¬ Waits md ops j i := fun ⟨oj', e1, e, e2, e3, e4⟩ => by
        rw [hoj] at e1
        cases e1
        exact hnot e e2 e3 e4
      have h2 := wpOp_putIf hoj (hfree j oj hoj hji hjun hnot) (fun cs b => hsel i oi cs b hi) (fun cs b => hsel j oj cs b hoj) hQ hy h1
      have hfree' : ∀ k ok, ops[k]? = some ok → k ≠ i → (listed.setIfInBounds j true).getD k true = false →
          (∀ e ∈ ok.after, Region.binds md e = true → e.on ≠ i) → oi.apart ops ok = true := fun k ok hk hki hun hno => by
        refine hfree k ok hk hki ?_ hno
        by_cases hjk : j = k
        · subst hjk; exact hjun
        · rw [getD_set_ne true hjk] at hun; exact hun
      refine wpOp_mono (fun a' w' h3 => ⟨fun m S' hm => h3.2.1 m S' (.inr hm), ih (listed.setIfInBounds j true) (pend.drop md ops j) a' w' hfree' (ready_mono hr (Ne.symm hji)) h3.1 (h3.2.1 i S (.inl ⟨rfl, rfl⟩) hnw hS) ?_⟩) h2
      rw [Array.setIfInBounds_comm _ _ hji]
      exact wpAnyP_less _ _ (fun m S' hx => by
        rcases hx with ⟨e1, e2⟩ | hx
        · exact ⟨.inl ⟨e1, e2⟩, by rw [e1]; exact hnw⟩
        · exact ⟨.inr hx.1, hx.2⟩) _ _ h3.2.2

/-- Take number i first. -/
theorem wpAnyP_take {i : Nat} {oi : Oper} {v : Value} {S : World → Prop} {pend : Pend} {fuel : Nat} {listed : Array Bool} {a : Act} {w : World} (hi : ops[i]? = some oi)
    (hs : Region.noSelect ops = true) (hf : Region.free md ops listed i = true) (hr : i ∈ Region.ready md ops listed)
    (hQ : ∀ c a w, Q (.panic c) (a.put oi.dst v) w → Q (.panic c) a w) (hy : YieldsIf P ops S oi v a) (hS : S w)
    (h : wpAnyP P md ops Q fuel (listed.setIfInBounds i true) (pend.add i S) (a.put oi.dst v) w) : wpAnyP P md ops Q (fuel + 1) listed pend a w :=
  wpAnyP_first hi (Region.noSelect_spec hs) hQ fuel listed pend a w (Region.free_spec hi hf) hr hy hS h

/-- Only number i may come up. -/
theorem wpAnyP_one {i : Nat} {pend : Pend} {fuel : Nat} {listed : Array Bool} {a : Act} {w : World} (hr : Region.ready md ops listed = [i])
    (h : wpOp P ops Q i (fun a' w' => (∀ m S, pend m S → ¬ Waits md ops i m → S w → S w') ∧ wpAnyP P md ops Q fuel (listed.setIfInBounds i true) (pend.drop md ops i) a' w') a w) : wpAnyP P md ops Q (fuel + 1) listed pend a w :=
  ⟨fun h0 => (by rw [hr] at h0; cases h0), fun j hj => by rw [hr] at hj; simp at hj; subst hj; exact h⟩

theorem wpAnyP_done {pend : Pend} {listed : Array Bool} {a : Act} {w : World} (hr : Region.ready md ops listed = []) (h : Q .normal a w) :
    ∀ fuel, wpAnyP P md ops Q fuel listed pend a w
  | 0 => ⟨hr, h⟩
  | _ + 1 => ⟨fun _ => h, by rw [hr]; simp⟩

theorem wp_region_P {id : Nat} {a : Act} {w : World} (hm : P.follows .mixedOrders = true)
    (h : wpAnyP P .any ops Q ops.size (Array.replicate ops.size false) (fun _ _ => False) a { w with drawn := w.drawn + 1 }) : (Code.region id ops true).wp P Q a w :=
  wp_region_any hm (wpAny_of_P _ _ _ _ h)

end

section
variable {N : Nat} {w0 : Entry} {P : Program} {C : Ctx} {ops : Array Oper} {Q : Exit → Act → World → Prop}

theorem pickStill_spec {listed : Array Bool} {i : Nat} : ∀ (l : List Nat), pickStill ops listed l = some i → i ∈ l ∧ ∃ o, ops[i]? = some o ∧ stillOp o.op = true ∧ Region.free .any ops listed i = true
  | [], h => by simp [pickStill] at h
  | j :: l, h => by
    simp only [pickStill] at h
    cases ho : ops[j]? with
    | none =>
      simp only [ho] at h
      obtain ⟨h1, h2⟩ := pickStill_spec l h
      exact ⟨List.mem_cons_of_mem _ h1, h2⟩
    | some o =>
      simp only [ho] at h
      cases hc : (stillOp o.op && Region.free .any ops listed j) <;> simp only [hc, cond_true, cond_false] at h
      · obtain ⟨h1, h2⟩ := pickStill_spec l h
        exact ⟨List.mem_cons_of_mem _ h1, h2⟩
      · cases h
        simp only [Bool.and_eq_true] at hc
        exact ⟨List.mem_cons_self, o, ho, hc.1, hc.2⟩

theorem waits_of {j m : Nat} (h : waitsB ops j m = true) : Waits .any ops j m := by
  unfold waitsB at h
  cases ho : ops[j]? with
  | none => simp [ho] at h
  | some o =>
    simp only [ho, List.any_eq_true, Bool.and_eq_true, Nat.beq_eq] at h
    obtain ⟨e, h1, h2, h3⟩ := h
    exact ⟨o, ho, e, by simpa using h1, h2, h3⟩

theorem mem_unwaited {i m d : Nat} (hn : ¬ Waits .any ops i m) : ∀ {l : List (Nat × Nat)}, (m, d) ∈ l → (m, d) ∈ unwaited ops i l
  | [], h => by simp at h
  | j :: l, h => by
    simp only [unwaited]
    rcases List.mem_cons.1 h with rfl | h
    · cases hw : waitsB ops i m
      · simp
      · exact absurd (waits_of hw) hn
    · have := mem_unwaited hn h
      cases waitsB ops i j.1 <;> simp [this]

theorem freshD_spec {d : Nat} {dec : List (Nat × Bool)} {dead : List Nat} {o : Oper} (h : freshD o.dst dec dead = true) (hd : o.dst = some d) : lkB dec d = none ∧ d ∉ dead := by
  rw [hd] at h
  simp only [freshD, Bool.and_eq_true, Bool.not_eq_true'] at h
  refine ⟨?_, fun e => by rw [memN_iff.2 e] at h; simp at h⟩
  cases hl : lkB dec d with
  | none => rfl
  | some b => rw [hl] at h; simp at h

theorem lkB_cons (j : Nat) (b : Bool) (l : List (Nat × Bool)) (i : Nat) : lkB ((j, b) :: l) i = if j = i then some b else lkB l i := by
  simp only [lkB]
  by_cases h : j = i
  · subst h; simp
  · have : Nat.beq j i = false := by rw [← Bool.not_eq_true, Nat.beq_eq]; exact h
    simp [this, h]

def PendOk (late : Bool) (pend : List (Nat × Nat)) (M : Mem) (m : Nat) (S : World → Prop) : Prop :=
  (∀ W, S W) ∨ ∃ d, (m, d) ∈ pend ∧ (late = true ∨ ∃ (B : Nat → Prop) (w1 : World), (∀ b, B b → b < M.w.heap.size ∧ ∀ t, M.own b = .atl t → t + 1 = d) ∧ S = fun W => ∀ b, B b → W.heap[b]? = w1.heap[b]?)

theorem draw_run (hC : CtxOk P C) (hdN : ∀ (i : Nat) (o : Oper) (d : Nat), ops[i]? = some o → o.dst = some d → d < N) (hns : Region.noSelect ops = true) (hQp : ∀ c a w, ¬ Q (.panic c) a w) {q : Bool} :
    ∀ (n m : Nat) (late : Bool) (listed : Array Bool) (pend : List (Nat × Nat)) (dec : List (Nat × Bool)) (dead : List Nat) (s : St) {T : Type} (k : St → Option T) (r : T) (M : Mem) (a : Act) (pc : Pend),
    drawRun C ops q n m late listed pend dec dead s k = some r → Inv N w0 M s a → (∀ jd b, lkB dec jd = some b → tmv a jd = .bool b) → (∀ d, d ∈ dead → tmv a d = undef) → (∀ m' S, pc m' S → PendOk late pend M m' S) → (q = true → late = false) →
    (∀ s' M' a', k s' = some r → Inv N w0 M' s' a' → (q = true → Quiets (dsts ops.toList) s M a s' M' a') → Q .normal a' M'.w) → wpAnyP P .any ops Q m listed pc a M.w
  | 0, _, _, _, _, _, _, _, _, _, _, _, _, _, h, _, _, _, _, _, _ => by simp [drawRun] at h
  | n + 1, m, late, listed, pend, dec, dead, s, T, k, r, M, a, pc, h, hI, hdec, hdead, hpc, hql, hk => by
    simp only [drawRun] at h
    cases hr : Region.ready .any ops listed with
    | nil =>
      simp only [hr] at h
      exact wpAnyP_done hr (hk s M a h hI (fun _ => Quiets.refl _)) m
    | cons i0 rs =>
    simp only [hr] at h
    cases m with
    | zero => cases h
    | succ m =>
    simp only at h
    -- a guard's truth value becomes known
    have asks : ∀ (o : Oper) (jd : Nat) (b : Bool), gstate ops s.env dec dead o = .ask jd b → (bif b then drawRun C ops q n (m + 1) late listed pend ((jd, true) :: dec) dead s k else drawRun C ops q n (m + 1) late listed pend ((jd, false) :: dec) dead s k) = some r →
        wpAnyP P .any ops Q (m + 1) listed pc a M.w := by
      intro o jd b hg h
      have hb : (lk s.env jd).bool? = some b := by
        unfold gstate at hg
        cases hgd : o.guard with
        | none => simp [hgd] at hg
        | some p =>
          obtain ⟨j, want⟩ := p
          simp only [hgd] at hg
          cases hj : (ops[j]?).bind (·.dst) with
          | none => simp [hj] at hg
          | some jd' =>
            simp only [hj] at hg
            cases hl : lkB dec jd' with
            | none =>
              simp only [hl] at hg
              cases hm : memN jd' dead <;> simp only [hm, cond_true, cond_false] at hg
              · cases hb : (lk s.env jd').bool? with
                | none => simp [hb] at hg
                | some b' => simp only [hb] at hg; cases hg; exact hb
              · cases hg
            | some b' =>
              simp only [hl] at hg
              cases hbw : (b' == want) <;> simp only [hbw, cond_true, cond_false] at hg <;> cases hg
      have hv := bool_slot hI (bool?_eq hb)
      have h' : drawRun C ops q n (m + 1) late listed pend ((jd, b) :: dec) dead s k = some r := by cases b <;> exact h
      refine draw_run hC hdN hns hQp n (m + 1) late listed pend ((jd, b) :: dec) dead s k r M a pc h' hI (fun j b' e => ?_) hdead hpc hql hk
      rw [lkB_cons] at e
      split at e
      · rename_i e'; cases e; rw [← e']; exact hv
      · exact hdec j b' e
    -- whether an operation is wanted
    have hrun : ∀ (o : Oper), gstate ops s.env dec dead o = .run → Region.wanted o (yielded ops a.tmps) = true := by
      intro o hg
      unfold gstate at hg
      unfold Region.wanted
      cases hgd : o.guard with
      | none => rfl
      | some p =>
        obtain ⟨j, want⟩ := p
        simp only [hgd] at hg
        cases hj : (ops[j]?).bind (·.dst) with
        | none => simp [hj] at hg
        | some jd =>
          simp only [hj] at hg
          cases hl : lkB dec jd with
          | none =>
            simp only [hl] at hg
            cases hm : memN jd dead <;> simp only [hm, cond_true, cond_false] at hg
            · split at hg <;> cases hg
            · cases hg
          | some b =>
            simp only [hl] at hg
            cases hbw : (b == want) <;> simp only [hbw, cond_true, cond_false] at hg
            · cases hg
            · simp only [yielded_of hj (hdec jd b hl)]
              have := eq_of_beq hbw
              subst this
              cases b <;> rfl
    have hskip : ∀ (o : Oper), gstate ops s.env dec dead o = .skip → Region.wanted o (yielded ops a.tmps) = false := by
      intro o hg
      unfold gstate at hg
      unfold Region.wanted
      cases hgd : o.guard with
      | none => simp [hgd] at hg
      | some p =>
        obtain ⟨j, want⟩ := p
        simp only [hgd] at hg
        cases hj : (ops[j]?).bind (·.dst) with
        | none => simp [hj] at hg
        | some jd =>
          simp only [hj] at hg
          cases hl : lkB dec jd with
          | none =>
            simp only [hl] at hg
            cases hm : memN jd dead <;> simp only [hm, cond_true, cond_false] at hg
            · split at hg <;> cases hg
            · simp only [yielded_undef hj (hdead jd (memN_iff.1 hm))]
              rfl
          | some b =>
            simp only [hl] at hg
            cases hbw : (b == want) <;> simp only [hbw, cond_true, cond_false] at hg
            · simp only [yielded_of hj (hdec jd b hl)]
              cases b <;> cases want <;> first | rfl | simp at hbw
            · cases hg
    have hready : ∀ i, i ∈ Region.ready .any ops listed → i ∈ (i0 :: rs) := fun i hi => by rw [hr] at hi; exact hi
    have mono : ∀ (Mz : Mem) (pend' : List (Nat × Nat)) (late' : Bool) (m' : Nat), (∀ d, (m', d) ∈ pend → (m', d) ∈ pend') → (late = true → late' = true) → (late' = false → M.w.heap.size ≤ Mz.w.heap.size ∧ ∀ b, b < M.w.heap.size → Mz.own b = M.own b) → ∀ S, pc m' S → PendOk late' pend' Mz m' S := fun Mz pend' late' m' h1 h2 h3 S hm => by
      rcases hpc m' S hm with e | ⟨d, e1, e2⟩
      · exact .inl e
      · refine .inr ⟨d, h1 d e1, ?_⟩
        cases late'
        · rcases e2 with e2 | ⟨B, w1, e2, e3⟩
          · have := h2 e2; cases this
          · exact .inr ⟨B, w1, fun b hb => ⟨Nat.lt_of_lt_of_le (e2 b hb).1 (h3 rfl).1, fun t ht => (e2 b hb).2 t (by rw [← (h3 rfl).2 b (e2 b hb).1]; exact ht)⟩, e3⟩
        · exact .inl rfl
    have keepDec : ∀ (o : Oper) (a' : Act), freshD o.dst dec dead = true → (∀ k, o.dst ≠ some k → tmv a' k = tmv a k) → (∀ jd b, lkB dec jd = some b → tmv a' jd = .bool b) ∧ (∀ d, d ∈ dead → tmv a' d = undef) := fun o a' hf ht => by
      refine ⟨fun jd b e => ?_, fun d e => ?_⟩
      · rw [ht jd (fun e' => by have := (freshD_spec hf e').1; rw [e] at this; cases this)]
        exact hdec jd b e
      · rw [ht d (fun e' => (freshD_spec hf e').2 e)]
        exact hdead d e
    have putOther : ∀ (o : Oper) (v : Value) (k : Nat), o.dst ≠ some k → tmv (a.put o.dst v) k = tmv a k := fun o v k hk' => by
      cases hd : o.dst with
      | none => rfl
      | some d =>
        have hdk : d ≠ k := fun e => hk' (by rw [hd, e])
        simp [Act.put, tmv, Array.getElem?_setIfInBounds_ne hdk]
    have memD : ∀ (i : Nat) (o : Oper) (d : Nat), ops[i]? = some o → o.dst = some d → d ∈ dsts ops.toList := fun i o d ho hd => mem_dsts (by simpa using Array.mem_of_getElem? ho) hd
    -- a quiet step, and what follows
    have follow : ∀ (i : Nat) (o : Oper) (s1 s2 : St) (M1 M2 : Mem) (a1 a2 : Act), ops[i]? = some o → QuietTo o s M s1 M1 → (∀ k, o.dst ≠ some k → tmv a1 k = tmv a k) → Quiets (dsts ops.toList) s1 M1 a1 s2 M2 a2 → Quiets (dsts ops.toList) s M a s2 M2 a2 := fun i o s1 s2 M1 M2 a1 a2 ho h1 ht h2 =>
      Quiets.trans (D1 := dsts ops.toList) ⟨fun j hj => h1.slots j fun e => hj (memD i o j ho e), fun j hj => ht j fun e => hj (memD i o j ho e), h1.blocks⟩ h2 (fun _ h => h) (fun _ h => h)
    -- an operation that is passed over
    have skips : ∀ (i : Nat) (o : Oper) (pend' : List (Nat × Nat)), ops[i]? = some o → gstate ops s.env dec dead o = .skip →
        (bif freshD o.dst dec dead then match o.dst with
          | some d => drawRun C ops q n m late (listed.setIfInBounds i true) pend' dec (d :: dead) (s.put o.dst .undef) k
          | none => drawRun C ops q n m late (listed.setIfInBounds i true) pend' dec dead s k
        else none) = some r → ∀ pc' : Pend, (∀ m' S, pc' m' S → PendOk late pend' M m' S) → wpAnyP P .any ops Q m (listed.setIfInBounds i true) pc' (a.put o.dst undef) M.w := by
      intro i o pend' ho hg h pc' hpc'
      cases hf : freshD o.dst dec dead <;> simp only [hf, cond_true, cond_false] at h
      · cases h
      obtain ⟨hd1, hd2⟩ := keepDec o (a.put o.dst undef) hf (putOther o undef)
      cases hd : o.dst with
      | none =>
        rw [hd] at hd1 hd2
        simp only [hd] at h
        exact draw_run hC hdN hns hQp n m late _ pend' dec dead s k r M a pc' h hI hdec hdead hpc' hql hk
      | some d =>
        rw [hd] at hd1 hd2
        simp only [hd] at h
        have hdn := hdN i o d ho hd
        have hI1 : Inv N w0 M (s.put (some d) .undef) (a.put (some d) undef) := hI.put (fun j e => by cases e; exact hdn) (by simp [R])
        refine draw_run hC hdN hns hQp n m late _ pend' dec (d :: dead) _ k r M _ pc' h hI1 hd1 (fun d' e => ?_) hpc' hql fun s' M' a' e1 e2 e3 => hk s' M' a' e1 e2 fun hq => ?_
        · rcases List.mem_cons.1 e with rfl | e
          · rw [tmv_put (by rw [hI.size]; exact hdn), if_pos rfl]
          · exact hd2 d' e
        · refine Quiets.trans (D1 := dsts ops.toList) ⟨fun j hj => lk_put_ne (fun e => hj (by cases e; exact memD i o d ho hd)), fun j hj => ?_, fun b hb => ⟨rfl, rfl⟩⟩ (e3 hq) (fun _ h => h) (fun _ h => h)
          rw [tmv_put (by rw [hI.size]; exact hdn), if_neg (fun e => hj (by rw [e]; exact memD i o d ho hd))]
    cases hp : pickStill ops listed (i0 :: rs) with
    | some i =>
      simp only [hp] at h
      obtain ⟨hi, o, ho, hst, hfree⟩ := pickStill_spec _ hp
      rw [← hr] at hi
      simp only [ho] at h
      cases hg : gstate ops s.env dec dead o with
      | bad => simp [hg] at h
      | ask jd b => simp only [hg] at h; exact asks o jd b hg h
      | skip =>
        simp only [hg] at h
        refine wpAnyP_take (S := fun _ => True) ho hns hfree hi (fun c a w h => absurd h (hQp c _ w)) (.inr ⟨hskip o hg, rfl⟩) trivial ?_
        refine skips i o pend ho hg h _ fun m' S hm => ?_
        rcases hm with ⟨_, e⟩ | e
        · subst e; exact .inl fun _ => trivial
        · exact hpc m' S e
      | run =>
        simp only [hg] at h
        cases hf : freshD o.dst dec dead <;> simp only [hf, cond_true, cond_false] at h
        · cases h
        obtain ⟨pend', hpend⟩ : ∃ pend', pend' = (bif isLoad o.op then (i, readOf s o) :: pend else pend) := ⟨_, rfl⟩
        rw [← hpend] at h
        have hsub : ∀ x, x ∈ pend → x ∈ pend' := fun x hx => by
          rw [hpend]
          cases isLoad o.op
          · exact hx
          · exact List.mem_cons_of_mem _ hx
        have hown : ∀ (s' : St) (M' : Mem), QuietTo o s M s' M' → M.w.heap.size ≤ M'.w.heap.size ∧ ∀ b, b < M.w.heap.size → M'.own b = M.own b := fun s' M' h3 => ⟨size_of_blocks fun b hb => (h3.blocks b hb).1, fun b hb => (h3.blocks b hb).2⟩
        have kk : ∀ (s' : St) (M' : Mem) (a' : Act), drawRun C ops q n m late (listed.setIfInBounds i true) pend' dec dead s' k = some r → Inv N w0 M' s' a' → QuietTo o s M s' M' → (∀ k, o.dst ≠ some k → tmv a' k = tmv a k) →
            ∀ S : World → Prop, PendOk late pend' M i S → wpAnyP P .any ops Q m (listed.setIfInBounds i true) (pc.add i S) a' M'.w := by
          intro s' M' a' h1 h2 h3 ht S hS
          obtain ⟨hd1, hd2⟩ := keepDec o a' hf ht
          refine draw_run hC hdN hns hQp n m late _ pend' dec dead s' k r M' a' (pc.add i S) h1 h2 hd1 hd2 (fun m' S' hm => ?_) hql fun s'' M'' a'' e1 e2 e3 => hk s'' M'' a'' e1 e2 fun hq => follow i o _ _ _ _ _ _ ho h3 ht (e3 hq)
          rcases hm with ⟨e, e'⟩ | e
          · subst e; subst e'
            rcases hS with e | ⟨d, e1, e2 | ⟨B, w1, e2, e3⟩⟩
            · exact .inl e
            · exact .inr ⟨d, e1, .inl e2⟩
            · exact .inr ⟨d, e1, .inr ⟨B, w1, fun b hb => ⟨Nat.lt_of_lt_of_le (e2 b hb).1 (hown s' M' h3).1, fun t htt => (e2 b hb).2 t (by rw [← (hown s' M' h3).2 b (e2 b hb).1]; exact htt)⟩, e3⟩⟩
          · exact mono M' pend' late m' (fun d => hsub _) (fun h => h) (fun _ => hown s' M' h3) S' e
        cases hld : isLoad o.op
        · have hw := step_still (quiet := true) (K := fun a' w' => (∀ k, o.dst ≠ some k → tmv a' k = tmv a k) → ∀ S : World → Prop, PendOk late pend' M i S → wpAnyP P .any ops Q m (listed.setIfInBounds i true) (pc.add i S) a' w')
            hC hI (fun d hd => hdN i o d ho hd) (fun s' M' a' h1 h2 h3 ht S hS => kk s' M' a' h1 h2 (h3 rfl) ht S hS) hst h
          obtain ⟨v, B, hB, hrv, hK⟩ := hw
          exact wpAnyP_take (S := fun _ => True) ho hns hfree hi (fun c a w h => absurd h (hQp c _ w)) (.inl ⟨hrun o hg, fun W _ => hrv W fun b hb => by have := (hB b hb).1; rw [hld] at this; cases this⟩) trivial
            (hK (putOther o v) _ (.inl fun _ => trivial))
        · have hw := step_load_own (quiet := true) (K := fun a' w' => (∀ k, o.dst ≠ some k → tmv a' k = tmv a k) → ∀ S : World → Prop, PendOk late pend' M i S → wpAnyP P .any ops Q m (listed.setIfInBounds i true) (pc.add i S) a' w')
            hC.toCtxOk0 hI (fun d hd => hdN i o d ho hd) (fun s' M' a' h1 h2 h3 ht S hS => kk s' M' a' h1 h2 (h3 rfl) ht S hS) hld h
          obtain ⟨v, B, hB, hrv, hK⟩ := hw
          exact wpAnyP_take (S := fun W => ∀ b, B b → W.heap[b]? = M.w.heap[b]?) ho hns hfree hi (fun c a w h => absurd h (hQp c _ w)) (.inl ⟨hrun o hg, fun W hW => hrv W hW⟩) (fun _ _ => rfl)
            (hK (putOther o v) _ (.inr ⟨readOf s o, by rw [hpend, hld]; exact List.mem_cons_self, .inr ⟨B, M.w, hB, rfl⟩⟩))
    | none =>
      simp only [hp] at h
      cases rs with
      | cons _ _ => simp at h
      | nil =>
      cases ho : ops[i0]? with
      | none => simp [ho] at h
      | some o =>
      simp only [ho] at h
      cases hg : gstate ops s.env dec dead o with
      | bad => simp [hg] at h
      | ask jd b => simp only [hg] at h; exact asks o jd b hg h
      | skip =>
        simp only [hg] at h
        refine wpAnyP_one hr ?_
        unfold wpOp
        simp only [ho, hskip o hg, Bool.false_eq_true, if_false]
        exact ⟨fun _ _ _ _ h => h, skips i0 o _ ho hg h _ fun m' S hm => mono M _ late m' (fun d => mem_unwaited hm.2) (fun h => h) (fun _ => ⟨Nat.le_refl _, fun _ _ => rfl⟩) S hm.1⟩
      | run =>
        simp only [hg] at h
        cases hf : freshD o.dst dec dead <;> simp only [hf, cond_true, cond_false] at h
        · cases h
        refine wpAnyP_one hr ?_
        unfold wpOp
        simp only [ho, hrun o hg, if_true]
        refine .inl ?_
        cases hc : (!q && pend.all (fun p => waitsB ops i0 p.1 || (!late && apartB (touches s o) p.2))) <;> simp only [hc, cond_true, cond_false] at h
        · cases hc2 : (!late && quietOp o.op) <;> simp only [hc2, cond_true, cond_false] at h
          · cases h
          simp only [Bool.and_eq_true, Bool.not_eq_true'] at hc2
          have hw := step_sound (quiet := true) (Q := Q) (K := fun a' w' => (∀ k, o.dst ≠ some k → tmv a' k = tmv a k) → (∀ m' S, pc m' S → ¬ Waits .any ops i0 m' → S M.w → S w') ∧ wpAnyP P .any ops Q m (listed.setIfInBounds i0 true) (pc.drop .any ops i0) a' w')
            hC hI (fun d hd => hdN i0 o d ho hd) (fun s' M' a' h1 h2 h3 ht => by
              obtain ⟨hd1, hd2⟩ := keepDec o a' hf ht
              refine ⟨fun m' S hm _ hS => ?_, draw_run hC hdN hns hQp n m late _ _ dec dead s' k r M' a' (pc.drop .any ops i0) h1 h2 hd1 hd2 (fun m' S hm => mono M' _ late m' (fun d => mem_unwaited hm.2) (fun h => h) (fun _ => ⟨size_of_blocks fun b hb => ((h3 rfl).blocks b hb).1, fun b hb => ((h3 rfl).blocks b hb).2⟩) S hm.1) hql
                fun s'' M'' a'' e1 e2 e3 => hk s'' M'' a'' e1 e2 fun hq => follow i0 o _ _ _ _ _ _ ho (h3 rfl) ht (e3 hq)⟩
              rcases hpc m' S hm with e | ⟨d, _, e | ⟨B, w1, e1, e2⟩⟩
              · exact e _
              · rw [hc2.1] at e; cases e
              · subst e2
                intro b hb
                rw [((h3 rfl).blocks b (e1 b hb).1).1]
                exact hS b hb) (fun _ => hc2.2) h
          exact Oper.wp_mono (fun a' w' hh => hh.1 hh.2) (wp_put hw)
        · simp only [Bool.and_eq_true, Bool.not_eq_true', List.all_eq_true, Bool.or_eq_true] at hc
          have rest : ∀ (s' : St) (M' : Mem) (a' : Act), drawRun C ops q n m true (listed.setIfInBounds i0 true) (unwaited ops i0 pend) dec dead s' k = some r → Inv N w0 M' s' a' → (∀ k, o.dst ≠ some k → tmv a' k = tmv a k) → wpAnyP P .any ops Q m (listed.setIfInBounds i0 true) (pc.drop .any ops i0) a' M'.w := by
            intro s' M' a' h1 h2 ht
            obtain ⟨hd1, hd2⟩ := keepDec o a' hf ht
            exact draw_run hC hdN hns hQp n m true _ _ dec dead s' k r M' a' (pc.drop .any ops i0) h1 h2 hd1 hd2 (fun m' S hm => mono M' _ true m' (fun d => mem_unwaited hm.2) (fun _ => rfl) (fun e => by cases e) S hm.1) (fun e => by rw [hc.1] at e; cases e) fun s'' M'' a'' e1 e2 _ => hk s'' M'' a'' e1 e2 fun hq => by rw [hc.1] at hq; cases hq
          cases hall : pend.all (fun p => waitsB ops i0 p.1)
          · -- a store beside what was read
            have hsome : ∃ t, touches s o = some t ∧ late = false := by
              rw [← Bool.not_eq_true, List.all_eq_true] at hall
              cases ht : touches s o with
              | none => exact absurd (fun p hp => (hc.2 p hp).elim (fun h => h) (fun h => by rw [ht] at h; simp [apartB] at h)) hall
              | some t =>
                cases hl : late
                · exact ⟨t, rfl, rfl⟩
                · exact absurd (fun p hp => (hc.2 p hp).elim (fun h => h) (fun h => by rw [hl] at h; simp at h)) hall
            obtain ⟨t, ht, hl⟩ := hsome
            have hw := step_store_touch (Q := Q) (K := fun a' w' => (∀ k, o.dst ≠ some k → tmv a' k = tmv a k) → (∀ m' S, pc m' S → ¬ Waits .any ops i0 m' → S M.w → S w') ∧ wpAnyP P .any ops Q m (listed.setIfInBounds i0 true) (pc.drop .any ops i0) a' w')
              hC.toCtxOk0 hI (i := t) (fun s' M' a' h1 h2 h3 htt => by
                refine ⟨fun m' S hm hnw hS => ?_, rest s' M' a' h1 h2 htt⟩
                rcases hpc m' S hm with e | ⟨d, e, e' | ⟨B, w1, e1, e2⟩⟩
                · exact e _
                · rw [hl] at e'; cases e'
                · subst e2
                  intro b hb
                  have hne : M.own b ≠ .atl t := fun eo => by
                    have h1 := (e1 b hb).2 t eo
                    rcases hc.2 _ e with h | h
                    · exact hnw (waits_of h)
                    · rw [ht] at h
                      simp only [apartB, Bool.and_eq_true, Bool.not_eq_true'] at h
                      have h2 := h.2
                      rw [← Bool.not_eq_true, Nat.beq_eq] at h2
                      exact h2 h1.symm
                  rw [h3 b hne]
                  exact hS b hb) ht h
            exact Oper.wp_mono (fun a' w' hh => hh.1 hh.2) (wp_put hw)
          · rw [List.all_eq_true] at hall
            have hw := step_sound (quiet := false) (Q := Q) (K := fun a' w' => (∀ k, o.dst ≠ some k → tmv a' k = tmv a k) → (∀ m' S, pc m' S → ¬ Waits .any ops i0 m' → S M.w → S w') ∧ wpAnyP P .any ops Q m (listed.setIfInBounds i0 true) (pc.drop .any ops i0) a' w')
              hC hI (fun d hd => hdN i0 o d ho hd) (fun s' M' a' h1 h2 _ ht => by
                refine ⟨fun m' S hm hnw hS => ?_, rest s' M' a' h1 h2 ht⟩
                rcases hpc m' S hm with e | ⟨d, e, _⟩
                · exact e _
                · exact absurd (waits_of (hall _ e)) hnw) (fun e => by cases e) h
            exact Oper.wp_mono (fun a' w' hh => hh.1 hh.2) (wp_put hw)

/-- One more order has been drawn. -/
def Mem.drew (M : Mem) : Mem := { M with w := { M.w with drawn := M.w.drawn + 1 } }

theorem Inv.drew {M : Mem} {s : St} {a : Act} (h : Inv N w0 M s a) : Inv N w0 M.drew s a := by
  have hT : Turn M M.drew (fun _ => False) := ⟨⟨Nat.le_refl _, fun _ _ => rfl, fun _ _ h => ⟨h, rfl⟩⟩, ⟨rfl, rfl, rfl, Nat.le_refl _, fun _ _ _ => ⟨rfl, rfl⟩⟩, fun _ _ _ h _ => ⟨h, rfl⟩⟩
  exact h.turn hT rfl

theorem draw_reg (hC : CtxOk P C) {id : Nat} {s : St} {T : Type} {k : St → Option T} {r : T} {M : Mem} {a : Act} (hd : ∀ o, o ∈ ops.toList → ∀ d, o.dst = some d → d < N) (h : drawReg C ops s k = some r) (hI : Inv N w0 M s a)
    (hk : ∀ s' M' a', k s' = some r → Inv N w0 M' s' a' → Q .normal a' M'.w) : (Code.region id ops true).wp P Q a M.w := by
  refine wp_mono (Q := fun e a w => match e with
    | .normal => Q .normal a w
    | _ => False) (wp_region_P hC.mixed ?_) (fun e a w h => by cases e <;> first | exact h | exact h.elim)
  unfold drawReg at h
  have hns : Region.noSelect ops = true := by
    cases hs : Region.noSelect ops
    · rw [hs] at h; cases h
    · rfl
  have hdN : ∀ (i : Nat) (o : Oper) (d : Nat), ops[i]? = some o → o.dst = some d → d < N := fun i o d ho hd' => hd o (by simpa using Array.mem_of_getElem? ho) d hd'
  simp only [hns, Bool.not_true, cond_false] at h
  have hId := hI.drew
  cases hg : hasGuard ops.toList <;> simp only [hg, cond_true, cond_false] at h
  · exact draw_run hC hdN hns (fun _ _ _ h => h) _ _ false _ [] [] [] s k r M.drew a _ h hId (fun _ _ e => by simp [lkB] at e) (fun _ e => by simp at e) (fun _ _ e => e.elim) (fun _ => rfl) (fun s' M' a' e1 e2 _ => hk s' M' a' e1 e2)
  · cases hl : lastDst ops.toList with
    | none => simp [hl] at h
    | some d =>
      simp only [hl, Option.bind_eq_some_iff] at h
      obtain ⟨rb, h1, h2⟩ := h
      refine draw_run hC hdN hns (fun _ _ _ h => h) _ _ false _ [] [] [] s _ rb M.drew a _ h1 hId (fun _ _ e => by simp [lkB] at e) (fun _ e => by simp at e) (fun _ _ e => e.elim) (fun _ => rfl) (fun s' M' a' e1 e2 e3 => ?_)
      have hb := bool?_eq e1
      have hq := e3 rfl
      have hv : tmv a' d = .bool rb := bool_slot e2 hb
      have hI1 := hId.roll (D := dsts ops.toList) (M' := M') (a' := a') hq.tm (fun b hb => (hq.blocks b hb).1) e2.frame e2.defers e2.size
      have hI2 : Inv N w0 (M.drew.roll M') (s.ask ops.toList d rb) a' := by
        refine ⟨⟨fun j => ?_, hI1.holds.args, hI1.holds.objs, hI1.holds.nx⟩, hI1.frame, hI1.defers, hI1.size⟩
        show R _ (lk ((d, .d .bool rb) :: killed (dsts ops.toList) s.env) j) _
        rw [lk_cons]
        by_cases h : j = d
        · rw [if_pos h, h, hv]; simp only [R]; exact ⟨[.bool rb], rfl, rfl⟩
        · rw [if_neg h]; exact hI1.holds.slots j
      exact hk _ (M.drew.roll M') a' h2 hI2
end
end Go.Lift
