import Derived.Test.YtbdbjamebjbhnaaLReg
import Derived.OrdersHeld
set_option linter.all false
/- REGIONS THAT DRAW THEIR ORDER. -/
namespace Go.Lift

/-- What was taken ahead of its time, and what must hold until it comes. -/
abbrev Pend := Nat → (World → Prop) → Prop

section
variable {P : Program} {ops : Array Oper} {Q : Exit → Act → World → Prop} {md : Region.Mode}

/-- Operation j itself waits for operation m. -/
def WaitsD (md : Region.Mode) (ops : Array Oper) (j m : Nat) : Prop := ∃ oj, ops[j]? = some oj ∧ ∃ e, e ∈ oj.after ∧ Region.binds md e = true ∧ e.on = m

/-- Operation j waits for operation m, or for one that does. -/
inductive Waits (md : Region.Mode) (ops : Array Oper) : Nat → Nat → Prop where
  | one {j m : Nat} (h : WaitsD md ops j m) : Waits md ops j m
  | more {j k m : Nat} (h : WaitsD md ops j k) (h' : Waits md ops k m) : Waits md ops j m

/-- Nobody is there before those that it waits for. -/
def Closed (md : Region.Mode) (ops : Array Oper) (listed : Array Bool) : Prop := ∀ k m, listed.getD k false = true → WaitsD md ops k m → listed.getD m false = true

theorem closed_waits {listed : Array Bool} (hc : Closed md ops listed) {j m : Nat} (h : Waits md ops j m) : listed.getD j false = true → listed.getD m false = true := by
  induction h with
  | one h => exact fun hj => hc _ _ hj h
  | more h _ ih => exact fun hj => ih (hc _ _ hj h)

theorem ready_waitsD {listed : Array Bool} {j m : Nat} (hj : j ∈ Region.ready md ops listed) (h : WaitsD md ops j m) : listed.getD m false = true := by
  obtain ⟨_, oj, hoj, hall⟩ := mem_ready.1 hj
  obtain ⟨o', e1, e, e2, e3, e4⟩ := h
  rw [hoj] at e1
  cases e1
  rw [← e4]
  exact hall e e2 e3

theorem ready_waits {listed : Array Bool} (hc : Closed md ops listed) {j m : Nat} (hj : j ∈ Region.ready md ops listed) (h : Waits md ops j m) : listed.getD m false = true := by
  cases h with
  | one h => exact ready_waitsD hj h
  | more h h' => exact closed_waits hc h' (ready_waitsD hj h)

theorem closed_set {listed : Array Bool} (hc : Closed md ops listed) {j : Nat} (hj : j ∈ Region.ready md ops listed) : Closed md ops (listed.setIfInBounds j true) := by
  intro k m hk hw
  by_cases hjk : j = k
  · subst hjk; exact getD_set_true (ready_waitsD hj hw)
  · rw [getD_set_ne false hjk] at hk; exact getD_set_true (hc k m hk hw)

theorem closed_none (n : Nat) : Closed md ops (Array.replicate n false) := by
  intro k m hk
  exfalso
  rw [Array.getD_eq_getD_getElem?, Array.getElem?_replicate] at hk
  split at hk <;> simp at hk

/-- Without those that operation i waits for. -/
def Pend.drop (p : Pend) (md : Region.Mode) (ops : Array Oper) (i : Nat) : Pend := fun m S => p m S ∧ ¬ Waits md ops i m
def Pend.add (p : Pend) (i : Nat) (S0 : World → Prop) : Pend := fun m S => (m = i ∧ S = S0) ∨ p m S

/-- Whatever order is picked from here on; what was taken ahead of its time (pend) keeps its condition behind each operation, up to one that waits for it. -/
def wpAnyP (P : Program) (md : Region.Mode) (ops : Array Oper) (Q : Exit → Act → World → Prop) : Nat → Array Bool → Pend → Act → World → Prop
  | 0, listed, _, a, w => Region.ready md ops listed = [] ∧ Q .normal a w
  | fuel + 1, listed, pend, a, w =>
    (Region.ready md ops listed = [] → Q .normal a w) ∧
    ∀ i ∈ Region.ready md ops listed, wpOp P ops Q i (fun a' w' => (∀ m S, pend m S → ¬ Waits md ops i m → S w → S w') ∧ wpAnyP P md ops Q fuel (listed.setIfInBounds i true) (pend.drop md ops i) a' w') a w

theorem wpAnyP_less : ∀ (fuel : Nat) (listed : Array Bool) {pend pend' : Pend} (_ : ∀ m S, pend m S → pend' m S) (a : Act) (w : World), wpAnyP P md ops Q fuel listed pend' a w → wpAnyP P md ops Q fuel listed pend a w
  | 0, _, _, _, _, _, _, h => h
  | fuel + 1, _, _, _, hp, _, _, h => ⟨h.1, fun i hi => wpOp_mono (fun a' w' h' => ⟨fun m S hm => h'.1 m S (hp _ _ hm), wpAnyP_less fuel _ (fun m S hm => ⟨hp _ _ hm.1, hm.2⟩) a' w' h'.2⟩) (h.2 i hi)⟩

theorem wpAny_of_P : ∀ (fuel : Nat) (listed : Array Bool) {pend : Pend} (a : Act) (w : World), wpAnyP P md ops Q fuel listed pend a w → wpAny P md ops Q fuel listed a w
  | 0, _, _, _, _, h => h
  | fuel + 1, _, _, _, _, h => ⟨h.1, fun i hi => wpOp_mono (fun a' w' h' => wpAny_of_P fuel _ a' w' h'.2) (h.2 i hi)⟩

theorem wpAnyP_first {i : Nat} {oi : Oper} {v : Value} {S : World → Prop} (hi : ops[i]? = some oi) (hsel : ∀ (j : Nat) (o : Oper) cs b, ops[j]? = some o → o.op ≠ .select cs b)
    (hQ : ∀ c a w, Q (.panic c) (a.put oi.dst v) w → Q (.panic c) a w) :
    ∀ (fuel : Nat) (listed : Array Bool) (pend : Pend) (a : Act) (w : World),
      (∀ j oj, ops[j]? = some oj → j ≠ i → listed.getD j true = false → (∀ e ∈ oj.after, Region.binds md e = true → e.on ≠ i) → oi.apart ops oj = true) →
      Closed md ops listed → i ∈ Region.ready md ops listed → YieldsIf P ops S oi v a → S w →
      wpAnyP P md ops Q fuel (listed.setIfInBounds i true) (pend.add i S) (a.put oi.dst v) w → wpAnyP P md ops Q (fuel + 1) listed pend a w := by
  intro fuel
  induction fuel with
  | zero =>
    intro listed pend a w _ _ hr hy hS H
    refine ⟨fun h => (by rw [h] at hr; cases hr), fun j hj => ?_⟩
    by_cases hji : j = i
    · subst hji; exact hy.wpOp hi hS ⟨fun _ _ _ _ h => h, H⟩
    · have := ready_mono hj hji
      rw [H.1] at this
      cases this
  | succ fuel ih =>
    intro listed pend a w hfree hcl hr hy hS H
    refine ⟨fun h => (by rw [h] at hr; cases hr), fun j hj => ?_⟩
    by_cases hji : j = i
    · subst hji
      exact hy.wpOp hi hS ⟨fun _ _ _ _ h => h, wpAnyP_less _ _ (fun m S hx => .inr hx.1) _ _ H⟩
    · have h1 := H.2 j (ready_mono hj hji)
      obtain ⟨hjun, oj, hoj, hall⟩ := mem_ready.1 hj
      have hnot : ∀ e ∈ oj.after, Region.binds md e = true → e.on ≠ i := fun e he hb heq => by
        have h1 := hall e he hb
        have h0 := (mem_ready.1 hr).1
        rw [heq] at h1
        rcases Nat.lt_or_ge i listed.size with h' | h'
        · simp [h'] at h0 h1; rw [h0] at h1; cases h1
        · simp [Array.getElem?_eq_none h'] at h1
      have hnw : ¬ Waits md ops j i := fun hw => by
        have h1 := ready_waits hcl hj hw
        have h0 := (mem_ready.1 hr).1
        rcases Nat.lt_or_ge i listed.size with h' | h'
        · simp [h'] at h0 h1; rw [h0] at h1; cases h1
        · simp [Array.getElem?_eq_none h'] at h1
      have h2 := wpOp_putIf hoj (hfree j oj hoj hji hjun hnot) (fun cs b => hsel i oi cs b hi) (fun cs b => hsel j oj cs b hoj) hQ hy h1
      have hfree' : ∀ k ok, ops[k]? = some ok → k ≠ i → (listed.setIfInBounds j true).getD k true = false →
          (∀ e ∈ ok.after, Region.binds md e = true → e.on ≠ i) → oi.apart ops ok = true := fun k ok hk hki hun hno => by
        refine hfree k ok hk hki ?_ hno
        by_cases hjk : j = k
        · subst hjk; exact hjun
        · rw [getD_set_ne true hjk] at hun; exact hun
      refine wpOp_mono (fun a' w' h3 => ⟨fun m S' hm => h3.2.1 m S' (.inr hm), ih (listed.setIfInBounds j true) (pend.drop md ops j) a' w' hfree' (closed_set hcl hj) (ready_mono hr (Ne.symm hji)) h3.1 (h3.2.1 i S (.inl ⟨rfl, rfl⟩) hnw hS) ?_⟩) h2
      rw [Array.setIfInBounds_comm _ _ hji]
      exact wpAnyP_less _ _ (fun m S' hx => by
        rcases hx with ⟨e1, e2⟩ | hx
        · exact ⟨.inl ⟨e1, e2⟩, by rw [e1]; exact hnw⟩
        · exact ⟨.inr hx.1, hx.2⟩) _ _ h3.2.2

/-- Take number i first. -/
theorem wpAnyP_take {i : Nat} {oi : Oper} {v : Value} {S : World → Prop} {pend : Pend} {fuel : Nat} {listed : Array Bool} {a : Act} {w : World} (hi : ops[i]? = some oi)
    (hs : Region.noSelect ops = true) (hf : ∀ j oj, ops[j]? = some oj → j ≠ i → listed.getD j true = false → (∀ e ∈ oj.after, Region.binds md e = true → e.on ≠ i) → oi.apart ops oj = true) (hcl : Closed md ops listed) (hr : i ∈ Region.ready md ops listed)
    (hQ : ∀ c a w, Q (.panic c) (a.put oi.dst v) w → Q (.panic c) a w) (hy : YieldsIf P ops S oi v a) (hS : S w)
    (h : wpAnyP P md ops Q fuel (listed.setIfInBounds i true) (pend.add i S) (a.put oi.dst v) w) : wpAnyP P md ops Q (fuel + 1) listed pend a w :=
  wpAnyP_first hi (Region.noSelect_spec hs) hQ fuel listed pend a w hf hcl hr hy hS h

/-- Only number i may come up, or number x. -/
theorem wpAnyP_one {i : Nat} {pend : Pend} {fuel : Nat} {listed : Array Bool} {a : Act} {w : World} (X : Nat → Prop) (hi : i ∈ Region.ready md ops listed) (hr : ∀ j, j ∈ Region.ready md ops listed → j = i ∨ X j)
    (hx : ∀ j, X j → wpOp P ops Q j (fun a' w' => (∀ m S, pend m S → ¬ Waits md ops j m → S w → S w') ∧ wpAnyP P md ops Q fuel (listed.setIfInBounds j true) (pend.drop md ops j) a' w') a w)
    (h : wpOp P ops Q i (fun a' w' => (∀ m S, pend m S → ¬ Waits md ops i m → S w → S w') ∧ wpAnyP P md ops Q fuel (listed.setIfInBounds i true) (pend.drop md ops i) a' w') a w) : wpAnyP P md ops Q (fuel + 1) listed pend a w :=
  ⟨fun h0 => (by rw [h0] at hi; cases hi), fun j hj => by
    rcases hr j hj with e | e
    · subst e; exact h
    · exact hx j e⟩

theorem wpAnyP_done {pend : Pend} {listed : Array Bool} {a : Act} {w : World} (hr : Region.ready md ops listed = []) (h : Q .normal a w) :
    ∀ fuel, wpAnyP P md ops Q fuel listed pend a w
  | 0 => ⟨hr, h⟩
  | _ + 1 => ⟨fun _ => h, by rw [hr]; simp⟩

theorem wp_region_P {id : Nat} {a : Act} {w : World} (hm : P.follows .mixedOrders = true)
    (h : wpAnyP P .any ops Q ops.size (Array.replicate ops.size false) (fun _ _ => False) a { w with drawn := w.drawn + 1 }) : (Code.region id ops true).wp P Q a w :=
  wp_region_any hm (wpAny_of_P _ _ _ _ h)

end

section
variable {N : Nat} {w0 : Entry} {P : Program} {C : Ctx} {ops : Array Oper} {Q : Exit → Act → World → Prop}

theorem pickStill_spec {listed : Array Bool} {i : Nat} : ∀ (l : List Nat), pickStill ops listed l = some i → i ∈ l ∧ ∃ o, ops[i]? = some o ∧ stillOp o.op = true ∧ Region.free .any ops listed i = true
  | [], h => by simp [pickStill] at h
  | j :: l, h => by
    simp only [pickStill] at h
    cases ho : ops[j]? with
    | none =>
      simp only [ho] at h
      obtain ⟨h1, h2⟩ := pickStill_spec l h
      exact ⟨List.mem_cons_of_mem _ h1, h2⟩
    | some o =>
      simp only [ho] at h
      cases hc : (stillOp o.op && Region.free .any ops listed j) <;> simp only [hc, cond_true, cond_false] at h
      · obtain ⟨h1, h2⟩ := pickStill_spec l h
        exact ⟨List.mem_cons_of_mem _ h1, h2⟩
      · cases h
        simp only [Bool.and_eq_true] at hc
        exact ⟨List.mem_cons_self, o, ho, hc.1, hc.2⟩

theorem waitsD_of {j m : Nat} (h : waitsD ops j m = true) : WaitsD .any ops j m := by
  unfold waitsD at h
  cases ho : ops[j]? with
  | none => simp [ho] at h
  | some o =>
    simp only [ho, List.any_eq_true, Bool.and_eq_true, Nat.beq_eq] at h
    obtain ⟨e, h1, h2, h3⟩ := h
    exact ⟨o, ho, e, by simpa using h1, h2, h3⟩

theorem waitsD_iff {j m : Nat} (h : WaitsD .any ops j m) : waitsD ops j m = true := by
  obtain ⟨o, ho, e, h1, h2, h3⟩ := h
  unfold waitsD
  simp only [ho, List.any_eq_true, Bool.and_eq_true, Nat.beq_eq]
  exact ⟨e, by simpa using h1, h2, h3⟩

theorem waitsN_of : ∀ (n : Nat) {j m : Nat}, waitsN ops n j m = true → Waits .any ops j m
  | 0, _, _, h => by simp [waitsN] at h
  | n + 1, j, m, h => by
    simp only [waitsN, Bool.or_eq_true] at h
    rcases h with h | h
    · exact .one (waitsD_of h)
    · cases ho : ops[j]? with
      | none => simp [ho] at h
      | some o =>
        simp only [ho, List.any_eq_true, Bool.and_eq_true] at h
        obtain ⟨e, h1, h2, h3⟩ := h
        exact .more ⟨o, ho, e, by simpa using h1, h2, rfl⟩ (waitsN_of n h3)

theorem waits_of {j m : Nat} (h : waitsB ops j m = true) : Waits .any ops j m := waitsN_of 6 h

theorem mem_unwaited {i m d : Nat} (hn : ¬ Waits .any ops i m) : ∀ {l : List (Nat × Nat)}, (m, d) ∈ l → (m, d) ∈ unwaited ops i l
  | [], h => by simp at h
  | j :: l, h => by
    simp only [unwaited]
    rcases List.mem_cons.1 h with rfl | h
    · cases hw : waitsB ops i m
      · simp
      · exact absurd (waits_of hw) hn
    · have := mem_unwaited hn h
      cases waitsB ops i j.1 <;> simp [this]

theorem freshD_spec {d : Nat} {dec : List (Nat × Bool)} {dead : List Nat} {o : Oper} (h : freshD o.dst dec dead = true) (hd : o.dst = some d) : lkB dec d = none ∧ d ∉ dead := by
  rw [hd] at h
  simp only [freshD, Bool.and_eq_true, Bool.not_eq_true'] at h
  refine ⟨?_, fun e => by rw [memN_iff.2 e] at h; simp at h⟩
  cases hl : lkB dec d with
  | none => rfl
  | some b => rw [hl] at h; simp at h

theorem lkB_cons (j : Nat) (b : Bool) (l : List (Nat × Bool)) (i : Nat) : lkB ((j, b) :: l) i = if j = i then some b else lkB l i := by
  simp only [lkB]
  by_cases h : j = i
  · subst h; simp
  · have : Nat.beq j i = false := by rw [← Bool.not_eq_true, Nat.beq_eq]; exact h
    simp [this, h]

/-! ### What comes last -/

/-- A block that was made ahead of its name gets it. -/
def Mem.claim (M : Mem) (p : Nat) (v : Value) : Mem where
  φ := fun i => if i = M.nx then v else M.φ i
  nx := M.nx + 1
  own := fun b => if b = p then .atl M.nx else M.own b
  w := M.w

theorem claim_le {M : Mem} {p : Nat} {v : Value} (hp : M.own p = .alien) : M.le (M.claim p v) :=
  ⟨Nat.le_succ _, fun i hi => by simp [Mem.claim, Nat.ne_of_lt hi], fun b _ h => ⟨by
    simp only [Mem.claim]
    rw [if_neg (fun e => by rw [e, hp] at h; cases h)]
    exact h, rfl⟩⟩

theorem Inv.claim {M : Mem} {s : St} {a : Act} (hI : Inv N w0 M s a) {p dx : Nat} {v : Value} {ob : Ob} (hp : M.own p = .alien) (hpw : w0.heap.size ≤ p) (hdx : tmv a dx = v) (h1 : v.oneCell' = true)
    (hob : OR (M.claim p v) M.nx ob) : Inv N w0 (M.claim p v) (s.new (some dx) ob) a := by
  have hle := claim_le (v := v) hp
  have hnx := hI.holds.nx
  refine ⟨⟨fun k => ?_, RC_mono hle _ _ hI.holds.args, fun id => ?_, by show M.nx + 1 = s.nx + 1; rw [hnx]⟩, ?_, hI.defers, hI.size⟩
  · show R _ (lk ((dx, .d (.ref s.nx) ()) :: s.env) k) _
    rw [lk_cons]
    by_cases h : k = dx
    · rw [if_pos h, h, hdx]
      simp only [R, rep]
      exact ⟨[v], rfl, by rw [← hnx]; exact Nat.lt_succ_self _, by simp [Mem.claim, ← hnx], by simp [Mem.claim, ← hnx, h1]⟩
    · rw [if_neg h]
      exact R_mono hle _ _ (hI.holds.slots k)
  · show (lkO ((s.nx, ob) :: s.σ) id = .gone ∨ id < M.nx + 1) ∧ OR _ id (lkO ((s.nx, ob) :: s.σ) id)
    rw [lkO_cons]
    by_cases h : id = s.nx
    · rw [if_pos h]
      exact ⟨.inr (by omega), by rw [h, ← hnx]; exact hob⟩
    · rw [if_neg h]
      have := hI.holds.objs id
      refine ⟨this.1.imp (fun h => h) (fun h => Nat.lt_succ_of_lt h), ?_⟩
      rcases this.1 with h3 | h3
      · rw [h3]; trivial
      · exact OR_keep hle h3 (fun b _ ho => ⟨by
          simp only [Mem.claim]
          rw [if_neg (fun e => by rw [e, hp] at ho; cases ho)]
          exact ho, rfl⟩) this.2
  · exact ⟨hI.frame.os, hI.frame.tape, hI.frame.output, hI.frame.size, fun b hb ho => by
      obtain ⟨h1, h2⟩ := hI.frame.block b hb ho
      refine ⟨h1, ?_⟩
      simp only [Mem.claim]
      rw [if_neg (by omega)]
      exact h2⟩

/-- A block that has no name yet. -/
def Mem.pre (M : Mem) (c : Obj) : Mem := { M with own := fun b => if b = M.w.heap.size then .alien else M.own b, w := M.w.alloc c }

theorem pre_turn (M : Mem) (c : Obj) : Turn M (M.pre c) (fun _ => False) := by
  have hsz : M.w.heap.size ≤ (M.w.alloc c).heap.size := Nat.le_of_lt (by simp)
  exact ⟨⟨Nat.le_refl _, fun i hi => rfl, fun b hb h => ⟨by simp [Mem.pre, Nat.ne_of_lt hb, h], old_heap _ _ hb⟩⟩, ⟨rfl, rfl, rfl, hsz, fun b hb h => ⟨old_heap _ _ hb, by simp [Mem.pre, Nat.ne_of_lt hb]⟩⟩,
    fun b hb id h _ => ⟨by simp [Mem.pre, Nat.ne_of_lt hb, h], old_heap _ _ hb⟩⟩

/-- Operation x makes memory c and needs nothing; its object is ob. -/
structure Lzy (P : Program) (ops : Array Oper) (N x dx : Nat) (ob : Ob) (c : Obj) (mk : Nat → Value) : Prop where
  op : ∃ ox, ops[x]? = some ox ∧ ox.guard = none ∧ ox.after.toList = [] ∧ ox.dst = some dx ∧ ∀ (a : Act) (w : World), (execOp a.eval ox).run P w = .ok (.value (mk w.heap.size)) (w.alloc c)
  lt : dx < N
  other : ∀ j o, ops[j]? = some o → j ≠ x → o.dst ≠ some dx
  one : ∀ p, (mk p).oneCell' = true
  orr : ∀ (M : Mem) (p : Nat), p < M.w.heap.size → M.w.heap[p]? = some c → OR (M.claim p (mk p)) M.nx ob

theorem lazy_step {x dx : Nat} {ob : Ob} {c : Obj} {mk : Nat → Value} (L : Lzy P ops N x dx ob c mk) {a : Act} {w : World} {K : Act → World → Prop} (h : K (a.put (some dx) (mk w.heap.size)) (w.alloc c)) : wpOp P ops Q x K a w := by
  obtain ⟨ox, h1, h2, h3, h4, h5⟩ := L.op
  unfold wpOp
  have hw : Region.wanted ox (yielded ops a.tmps) = true := by unfold Region.wanted; rw [h2]
  simp only [h1, hw, if_true]
  refine .inl ?_
  refine wp_value (h5 a w) ?_
  rw [h4]
  exact h

inductive Sta where
  | non | pen | flo

def zOf (x dx : Nat) (ob : Ob) : Sta → Laz
  | .non => none
  | _ => some (x, dx, ob)

def lcOf (x : Nat) (l : Array Bool) : Sta → Array Bool
  | .pen => l.setIfInBounds x false
  | _ => l

def eOf : Sta → Nat
  | .pen => 1
  | _ => 0

/-- Where the operation stands: done; not yet; done, but its object has no name yet. -/
def Flt (q : Bool) (w0 : Entry) (x dx : Nat) (c : Obj) (mk : Nat → Value) (M0 M : Mem) (s : St) (a : Act) (dec : List (Nat × Bool)) (dead : List Nat) (listed : Array Bool) : Sta → Prop
  | .non => True
  | .pen => lk s.env dx = .undef ∧ listed.getD x false = true ∧ lkB dec dx = none ∧ dx ∉ dead
  | .flo => lk s.env dx = .undef ∧ listed.getD x false = true ∧ ∃ p, (w0.heap.size ≤ p ∧ (q = true → M0.w.heap.size ≤ p)) ∧ p < M.w.heap.size ∧ M.w.heap[p]? = some c ∧ M.own p = .alien ∧ tmv a dx = mk p

theorem Flt.sure {q : Bool} {w0 : Entry} {x dx : Nat} {c : Obj} {mk : Nat → Value} {M0 M : Mem} {s : St} {a : Act} {dec : List (Nat × Bool)} {dead : List Nat} {listed : Array Bool} {st : Sta} (h : Flt q w0 x dx c mk M0 M s a dec dead listed st) (hs : st ≠ .non) :
    lk s.env dx = .undef ∧ listed.getD x false = true := by
  cases st with
  | non => exact absurd rfl hs
  | pen => exact ⟨h.1, h.2.1⟩
  | flo => exact ⟨h.1, h.2.1⟩

theorem getD_of_false {l : Array Bool} {x : Nat} (h : l.getD x false = true) : l.getD x true = true ∧ x < l.size := by
  rcases Nat.lt_or_ge x l.size with h' | h'
  · simp [h'] at h ⊢; exact h
  · simp [Array.getElem?_eq_none h'] at h

theorem getD_setF_ne {l : Array Bool} {x j : Nat} (d : Bool) (h : j ≠ x) : (l.setIfInBounds x false).getD j d = l.getD j d := by
  simp [Array.getElem?_setIfInBounds_ne (Ne.symm h)]

theorem getD_setF_eq {l : Array Bool} {x : Nat} (h : x < l.size) (d : Bool) : (l.setIfInBounds x false).getD x d = false := by
  simp [h]

theorem setF_setT {l : Array Bool} {x : Nat} (h : l.getD x false = true) : (l.setIfInBounds x false).setIfInBounds x true = l := by
  apply Array.ext_getElem?
  intro i
  rcases Nat.lt_or_ge x l.size with h' | h'
  · simp [h'] at h
    rw [Array.setIfInBounds_setIfInBounds]
    by_cases hi : x = i
    · subst hi
      rw [Array.getElem?_setIfInBounds_self_of_lt h', Array.getElem?_eq_getElem h', h]
    · rw [Array.getElem?_setIfInBounds_ne hi]
  · simp [Array.getElem?_eq_none h'] at h

/-- Only those that wait for nobody who is still to come, and not for x. -/
theorem ready_pen {x : Nat} {listed : Array Bool} (hx : listed.getD x false = true) {j : Nat} (hj : j ≠ x) : j ∈ Region.ready .any ops (listed.setIfInBounds x false) ↔ j ∈ Region.ready .any ops listed ∧ waitsD ops j x = false := by
  have hlt := (getD_of_false hx).2
  constructor
  · intro h
    have h0 := h
    rw [mem_ready] at h
    obtain ⟨h1, o, ho, hall⟩ := h
    rw [getD_setF_ne true hj] at h1
    refine ⟨mem_ready.2 ⟨h1, o, ho, fun e he hb => ?_⟩, ?_⟩
    · have := hall e he hb
      by_cases he' : e.on = x
      · rw [he', getD_setF_eq hlt] at this; cases this
      · rw [getD_setF_ne false he'] at this; exact this
    · rw [← Bool.not_eq_true]
      intro hw
      have := ready_waitsD h0 (waitsD_of hw)
      rw [getD_setF_eq hlt] at this
      cases this
  · rintro ⟨h, hw⟩
    rw [mem_ready] at h
    obtain ⟨h1, o, ho, hall⟩ := h
    refine mem_ready.2 ⟨by rw [getD_setF_ne true hj]; exact h1, o, ho, fun e he hb => ?_⟩
    have he' : e.on ≠ x := fun e' => by
      rw [waitsD_iff ⟨o, ho, e, he, hb, e'⟩] at hw; cases hw
    rw [getD_setF_ne false he']
    exact hall e he hb

theorem ready_self {x dx : Nat} {ob : Ob} {c : Obj} {mk : Nat → Value} (L : Lzy P ops N x dx ob c mk) {listed : Array Bool} (hx : listed.getD x false = true) : x ∈ Region.ready .any ops (listed.setIfInBounds x false) := by
  obtain ⟨ox, h1, h2, h3, h4, h5⟩ := L.op
  refine mem_ready.2 ⟨getD_setF_eq (getD_of_false hx).2 true, ox, h1, fun e he => ?_⟩
  have : e ∈ ox.after.toList := by simpa using he
  rw [h3] at this
  cases this

theorem ready_ne {x : Nat} {listed : Array Bool} (hx : listed.getD x false = true) {j : Nat} (hj : j ∈ Region.ready .any ops listed) : j ≠ x := fun e => by
  have h1 := (mem_ready.1 hj).1
  rw [e, (getD_of_false hx).1] at h1
  cases h1

def PendOk (q late : Bool) (pend : List (Nat × Nat)) (M : Mem) (m : Nat) (S : World → Prop) : Prop :=
  (∀ W, S W) ∨ ∃ d, (m, d) ∈ pend ∧ (late = true ∨ ∃ (B : Nat → Prop) (w1 : World), (∀ b, B b → b < M.w.heap.size ∧ (q = false → ∀ t, M.own b = .atl t → t + 1 = d)) ∧ S = fun W => ∀ b, B b → W.heap[b]? = w1.heap[b]?)

/-- The drawn run holds, from whatever is reached on, x standing so. -/
def DrawOk (P : Program) (C : Ctx) (ops : Array Oper) (Q : Exit → Act → World → Prop) (N : Nat) (w0 : Entry) (q : Bool) (s0 : St) (M0 : Mem) (a0 : Act) (x dx : Nat) (ob : Ob) (c : Obj) (mk : Nat → Value) (st : Sta) : Prop :=
  ∀ (n m : Nat) (late : Bool) (listed : Array Bool) (pend : List (Nat × Nat)) (dec : List (Nat × Bool)) (dead : List Nat) (s : St) {T : Type} (k : St → Option T) (r : T) (M : Mem) (a : Act) (pc : Pend),
    drawRun C ops q n m late listed (zOf x dx ob st) pend dec dead s k = some r → Inv N w0 M s a → (∀ jd b, lkB dec jd = some b → tmv a jd = .bool b) → (∀ d, d ∈ dead → tmv a d = undef) → (∀ m' S, pc m' S → PendOk q late pend M m' S) → (q = true → late = false) → (st ≠ .non → late = false) →
    Flt q w0 x dx c mk M0 M s a dec dead listed st → Closed .any ops (lcOf x listed st) → (q = true → Quiets (dsts ops.toList) s0 M0 a0 s M a) →
    (∀ s' M' a', k s' = some r → Inv N w0 M' s' a' → (q = true → Quiets (dsts ops.toList) s0 M0 a0 s' M' a') → Q .normal a' M'.w) → wpAnyP P .any ops Q (m + eOf st) (lcOf x listed st) pc a M.w

theorem flt_step {q : Bool} {w0 : Entry} {x dx : Nat} {ob : Ob} {c : Obj} {mk : Nat → Value} {M0 M M' : Mem} {s s' : St} {a a' : Act} {dec : List (Nat × Bool)} {dead dead' : List Nat} {listed : Array Bool} {st : Sta} (hL : st ≠ .non → Lzy P ops N x dx ob c mk)
    (h : Flt q w0 x dx c mk M0 M s a dec dead listed st) {i : Nat} {o : Oper} (ho : ops[i]? = some o) (hix : st ≠ .non → i ≠ x)
    (he : ∀ j, o.dst ≠ some j → lk s'.env j = lk s.env j) (ht : ∀ k, o.dst ≠ some k → tmv a' k = tmv a k) (hb : st ≠ .non → ∀ b, b < M.w.heap.size → M'.w.heap[b]? = M.w.heap[b]? ∧ LabTo (M.own b) (M'.own b))
    (hdead : ∀ d, d ∈ dead' → d ∈ dead ∨ o.dst = some d) : Flt q w0 x dx c mk M0 M' s' a' dec dead' (listed.setIfInBounds i true) st := by
  cases st with
  | non => trivial
  | pen =>
    have hd := (hL (by simp)).other i o ho (hix (by simp))
    exact ⟨by rw [he dx hd]; exact h.1, getD_set_true h.2.1, h.2.2.1, fun e => (hdead dx e).elim h.2.2.2 (fun e => hd e)⟩
  | flo =>
    have hd := (hL (by simp)).other i o ho (hix (by simp))
    obtain ⟨h1, h2, p, h3, h4, h5, h6, h7⟩ := h
    obtain ⟨k1, k2⟩ := hb (by simp) p h4
    exact ⟨by rw [he dx hd]; exact h1, getD_set_true h2, p, h3, heap_lt (k1.trans h5), k1.trans h5, k2.alien h6, by rw [ht dx hd]; exact h7⟩

theorem lc_set {x i : Nat} {st : Sta} (listed : Array Bool) (hix : st ≠ .non → i ≠ x) : (lcOf x listed st).setIfInBounds i true = lcOf x (listed.setIfInBounds i true) st := by
  cases st with
  | non => rfl
  | pen => exact Array.setIfInBounds_comm _ _ (Ne.symm (hix (by simp)))
  | flo => rfl
theorem draw_gen (hC : CtxOk P C) (hdN : ∀ (i : Nat) (o : Oper) (d : Nat), ops[i]? = some o → o.dst = some d → d < N) (hns : Region.noSelect ops = true) (hQp : ∀ c a w, ¬ Q (.panic c) a w) {q : Bool} {s0 : St} {M0 : Mem} {a0 : Act} {x dx : Nat} {ob : Ob} {c : Obj} {mk : Nat → Value} (hw0 : w0.heap.size ≤ M0.w.heap.size)
    (st : Sta) (hL : st ≠ .non → Lzy P ops N x dx ob c mk) (hnon : st ≠ .non → DrawOk P C ops Q N w0 q s0 M0 a0 x dx ob c mk .non) (hflo : st = .pen → DrawOk P C ops Q N w0 q s0 M0 a0 x dx ob c mk .flo) : DrawOk P C ops Q N w0 q s0 M0 a0 x dx ob c mk st := by
  intro n
  induction n with
  | zero => intro m late listed pend dec dead s T k r M a pc h; simp [drawRun] at h
  | succ n ih =>
    intro m late listed pend dec dead s T k r M a pc h hI hdec hdead hpc hql hst hF hcl hQ0 hk
    have hixR : ∀ i, i ∈ notYet ops (zOf x dx ob st) (Region.ready .any ops listed) → (st ≠ .non → i ≠ x) ∧ i ∈ Region.ready .any ops (lcOf x listed st) := by
      intro i hi
      cases st with
      | non => exact ⟨fun h => absurd rfl h, hi⟩
      | pen =>
        simp only [zOf, notYet, List.mem_filter, Bool.not_eq_true'] at hi
        have hx := (hF.sure (by simp)).2
        have hne := ready_ne hx hi.1
        exact ⟨fun _ => hne, (ready_pen hx hne).2 hi⟩
      | flo =>
        simp only [zOf, notYet, List.mem_filter, Bool.not_eq_true'] at hi
        exact ⟨fun _ => ready_ne (hF.sure (by simp)).2 hi.1, hi.1⟩
    have hconv : ∀ j, st = .pen → j ∈ Region.ready .any ops (lcOf x listed st) → j = x ∨ j ∈ notYet ops (zOf x dx ob st) (Region.ready .any ops listed) := by
      intro j hs hj
      subst hs
      by_cases e : j = x
      · exact .inl e
      · have := (ready_pen (hF.sure (by simp)).2 e).1 hj
        exact .inr (by simp only [zOf, notYet, List.mem_filter, Bool.not_eq_true']; exact this)
    -- the operation comes up
    have xstep : ∀ (m1 : Nat), st = .pen → drawRun C ops q (n + 1) m1 late listed (zOf x dx ob .flo) pend dec dead s k = some r →
        wpOp P ops Q x (fun a' w' => (∀ m S, pc m S → ¬ Waits .any ops x m → S M.w → S w') ∧ wpAnyP P .any ops Q m1 ((lcOf x listed st).setIfInBounds x true) (pc.drop .any ops x) a' w') a M.w := by
      intro m1 hs hdr
      subst hs
      have L := hL (by simp)
      have hlt := hst (by simp)
      obtain ⟨f1, f2, f3, f4⟩ := hF
      refine lazy_step L ⟨fun m' S hm _ hS => ?_, ?_⟩
      · rcases hpc m' S hm with e | ⟨d, _, e | ⟨B, w1, e1, e2⟩⟩
        · exact e _
        · rw [hlt] at e; cases e
        · subst e2
          intro b hb
          rw [old_heap _ _ (e1 b hb).1]
          exact hS b hb
      · have hT := pre_turn M c
        have hsz : q = true → M0.w.heap.size ≤ M.w.heap.size := fun hqt => size_of_blocks fun b hb => ((hQ0 hqt).blocks b hb).1
        have hdn : dx < a.tmps.size := by rw [hI.size]; exact L.lt
        have hIt := hI.turn hT rfl
        have hI1 : Inv N w0 (M.pre c) s (a.put (some dx) (mk M.w.heap.size)) := by
          refine ⟨⟨fun j => ?_, hIt.holds.args, hIt.holds.objs, hIt.holds.nx⟩, hIt.frame, hIt.defers, by simpa [Act.put] using hIt.size⟩
          rw [tmv_put hdn]
          by_cases h : j = dx
          · rw [if_pos h, h, f1]; simp [R]
          · rw [if_neg h]; exact hIt.holds.slots j
        have hcl2 := closed_set hcl (ready_self L f2)
        rw [show lcOf x listed Sta.pen = listed.setIfInBounds x false from rfl, setF_setT f2] at hcl2
        have goal := hflo rfl (n + 1) m1 late listed pend dec dead s k r (M.pre c) (a.put (some dx) (mk M.w.heap.size)) (pc.drop .any ops x) hdr hI1 (fun jd b e => by
            rw [tmv_put hdn, if_neg (fun e' => by rw [e', f3] at e; cases e)]; exact hdec jd b e) (fun d e => by
            rw [tmv_put hdn, if_neg (fun e' => f4 (by rw [← e']; exact e))]; exact hdead d e) (fun m' S hm => by
            rcases hpc m' S hm.1 with e | ⟨d, e1, e2 | ⟨B, w1, e2, e3⟩⟩
            · exact .inl e
            · exact .inr ⟨d, e1, .inl e2⟩
            · exact .inr ⟨d, e1, .inr ⟨B, w1, fun b hb => ⟨Nat.lt_of_lt_of_le (e2 b hb).1 hT.frame.size, fun e t ht => (e2 b hb).2 e t (by simp only [Mem.pre] at ht; rw [if_neg (Nat.ne_of_lt (e2 b hb).1)] at ht; exact ht)⟩, e3⟩⟩) hql (fun _ => hlt)
            ⟨f1, f2, M.w.heap.size, ⟨hI.frame.size, hsz⟩, by show _ < (M.w.alloc c).heap.size; simp, new_heap _ _, by simp [Mem.pre], by rw [tmv_put hdn, if_pos rfl]⟩ hcl2 (fun hqt => by
              have hsz := hsz hqt
              obtain ⟨ox, e1, _, _, e4, _⟩ := L.op
              have hD : dx ∈ dsts ops.toList := mem_dsts (by simpa using Array.mem_of_getElem? e1) e4
              have hQs := hQ0 hqt
              exact ⟨hQs.slots, fun j hj => by rw [tmv_put hdn, if_neg (fun e => hj (by rw [e]; exact hD))]; exact hQs.tm j hj, fun b hb => by
                obtain ⟨k1, k2⟩ := hQs.blocks b hb
                exact ⟨(old_heap _ _ (Nat.lt_of_lt_of_le hb hsz)).trans k1, by simp only [Mem.pre]; rw [if_neg (by omega)]; exact k2⟩⟩) hk
        rw [show lcOf x listed Sta.pen = listed.setIfInBounds x false from rfl, setF_setT f2]
        exact goal
    have hfull := h
    simp only [drawRun] at h
    cases hr : notYet ops (zOf x dx ob st) (Region.ready .any ops listed) with
    | nil =>
      simp only [hr] at h
      cases st with
      | non =>
        exact wpAnyP_done (show Region.ready .any ops listed = [] by simpa [zOf, notYet] using hr) (hk s M a h hI hQ0) _
      | flo =>
        have L := hL (by simp)
        have hlt := hst (by simp)
        obtain ⟨f1, f2, p, f3, f4, f5, f6, f7⟩ := hF
        have hI1 := hI.claim f6 f3.1 f7 (L.one p) (L.orr M p f4 f5)
        refine hnon (by simp) n m (!q || late) listed pend dec dead _ k r (M.claim p (mk p)) a pc h hI1 hdec hdead (fun m' S hm => ?_) (fun e => by rw [e, hlt]; rfl) (fun e => absurd rfl e) trivial hcl (fun hqt => ?_) hk
        · rcases hpc m' S hm with e | ⟨d, e1, e2 | ⟨B, w1, e2, e3⟩⟩
          · exact .inl e
          · rw [hlt] at e2; cases e2
          · cases q
            · exact .inr ⟨d, e1, .inl rfl⟩
            · exact .inr ⟨d, e1, .inr ⟨B, w1, fun b hb => ⟨(e2 b hb).1, fun e => by cases e⟩, e3⟩⟩
        · obtain ⟨ox, e1, _, _, e4, _⟩ := L.op
          have hD : dx ∈ dsts ops.toList := mem_dsts (by simpa using Array.mem_of_getElem? e1) e4
          have hQs := hQ0 hqt
          refine ⟨fun j hj => ?_, hQs.tm, fun b hb => ⟨(hQs.blocks b hb).1, ?_⟩⟩
          · show lk ((dx, .d (.ref s.nx) ()) :: s.env) j = _
            rw [lk_cons, if_neg (fun e => hj (by rw [e]; exact hD))]
            exact hQs.slots j hj
          · simp only [Mem.claim]
            rw [if_neg (by have := f3.2 hqt; omega)]
            exact (hQs.blocks b hb).2
      | pen =>
        have hx := (hF.sure (by simp)).2
        refine wpAnyP_one (fun _ => False) (ready_self (hL (by simp)) hx) (fun j hj => ?_) (fun _ e => e.elim) (xstep m rfl hfull)
        rcases hconv j rfl hj with e | e
        · exact .inl e
        · rw [hr] at e; cases e
    | cons i0 rs =>
    simp only [hr] at h
    cases m with
    | zero => cases h
    | succ m =>
    simp only at h
    have em : m + 1 + eOf st = (m + eOf st) + 1 := by omega
    -- a guard's truth value becomes known
    have asks : ∀ (o : Oper) (jd : Nat) (b : Bool), gstate ops s.env dec dead o = .ask jd b → (bif b then drawRun C ops q n (m + 1) late listed (zOf x dx ob st) pend ((jd, true) :: dec) dead s k else drawRun C ops q n (m + 1) late listed (zOf x dx ob st) pend ((jd, false) :: dec) dead s k) = some r →
        wpAnyP P .any ops Q (m + 1 + eOf st) (lcOf x listed st) pc a M.w := by
      intro o jd b hg h
      have hb : (lk s.env jd).bool? = some b := by
        unfold gstate at hg
        cases hgd : o.guard with
        | none => simp [hgd] at hg
        | some p =>
          obtain ⟨j, want⟩ := p
          simp only [hgd] at hg
          cases hj : (ops[j]?).bind (·.dst) with
          | none => simp [hj] at hg
          | some jd' =>
            simp only [hj] at hg
            cases hl : lkB dec jd' with
            | none =>
              simp only [hl] at hg
              cases hm : memN jd' dead <;> simp only [hm, cond_true, cond_false] at hg
              · cases hb : (lk s.env jd').bool? with
                | none => simp [hb] at hg
                | some b' => simp only [hb] at hg; cases hg; exact hb
              · cases hg
            | some b' =>
              simp only [hl] at hg
              cases hbw : (b' == want) <;> simp only [hbw, cond_true, cond_false] at hg <;> cases hg
      have hv := bool_slot hI (bool?_eq hb)
      have h' : drawRun C ops q n (m + 1) late listed (zOf x dx ob st) pend ((jd, b) :: dec) dead s k = some r := by cases b <;> exact h
      refine ih (m + 1) late listed pend ((jd, b) :: dec) dead s k r M a pc h' hI (fun j b' e => ?_) hdead hpc hql hst ?_ hcl hQ0 hk
      · rw [lkB_cons] at e
        split at e
        · rename_i e'; cases e; rw [← e']; exact hv
        · exact hdec j b' e
      · cases st with
        | non => trivial
        | flo => exact hF
        | pen =>
          refine ⟨hF.1, hF.2.1, ?_, hF.2.2.2⟩
          rw [lkB_cons, if_neg (fun e => by rw [e, hF.1] at hb; cases hb)]
          exact hF.2.2.1
    -- whether an operation is wanted
    have hrun : ∀ (o : Oper), gstate ops s.env dec dead o = .run → Region.wanted o (yielded ops a.tmps) = true := by
      intro o hg
      unfold gstate at hg
      unfold Region.wanted
      cases hgd : o.guard with
      | none => rfl
      | some p =>
        obtain ⟨j, want⟩ := p
        simp only [hgd] at hg
        cases hj : (ops[j]?).bind (·.dst) with
        | none => simp [hj] at hg
        | some jd =>
          simp only [hj] at hg
          cases hl : lkB dec jd with
          | none =>
            simp only [hl] at hg
            cases hm : memN jd dead <;> simp only [hm, cond_true, cond_false] at hg
            · split at hg <;> cases hg
            · cases hg
          | some b =>
            simp only [hl] at hg
            cases hbw : (b == want) <;> simp only [hbw, cond_true, cond_false] at hg
            · cases hg
            · simp only [yielded_of hj (hdec jd b hl)]
              have := eq_of_beq hbw
              subst this
              cases b <;> rfl
    have hskip : ∀ (o : Oper), gstate ops s.env dec dead o = .skip → Region.wanted o (yielded ops a.tmps) = false := by
      intro o hg
      unfold gstate at hg
      unfold Region.wanted
      cases hgd : o.guard with
      | none => simp [hgd] at hg
      | some p =>
        obtain ⟨j, want⟩ := p
        simp only [hgd] at hg
        cases hj : (ops[j]?).bind (·.dst) with
        | none => simp [hj] at hg
        | some jd =>
          simp only [hj] at hg
          cases hl : lkB dec jd with
          | none =>
            simp only [hl] at hg
            cases hm : memN jd dead <;> simp only [hm, cond_true, cond_false] at hg
            · split at hg <;> cases hg
            · simp only [yielded_undef hj (hdead jd (memN_iff.1 hm))]
              rfl
          | some b =>
            simp only [hl] at hg
            cases hbw : (b == want) <;> simp only [hbw, cond_true, cond_false] at hg
            · simp only [yielded_of hj (hdec jd b hl)]
              cases b <;> cases want <;> first | rfl | simp at hbw
            · cases hg
    have mono : ∀ (Mz : Mem) (pend' : List (Nat × Nat)) (late' : Bool) (m' : Nat), (∀ d, (m', d) ∈ pend → (m', d) ∈ pend') → (late = true → late' = true) → (late' = false → M.w.heap.size ≤ Mz.w.heap.size ∧ ∀ b, b < M.w.heap.size → LabTo (M.own b) (Mz.own b)) → ∀ S, pc m' S → PendOk q late' pend' Mz m' S := fun Mz pend' late' m' h1 h2 h3 S hm => by
      rcases hpc m' S hm with e | ⟨d, e1, e2⟩
      · exact .inl e
      · refine .inr ⟨d, h1 d e1, ?_⟩
        cases late'
        · rcases e2 with e2 | ⟨B, w1, e2, e3⟩
          · have := h2 e2; cases this
          · exact .inr ⟨B, w1, fun b hb => ⟨Nat.lt_of_lt_of_le (e2 b hb).1 (h3 rfl).1, fun hqf t ht => (e2 b hb).2 hqf t (((h3 rfl).2 b (e2 b hb).1).atl ht)⟩, e3⟩
        · exact .inl rfl
    have keepDec : ∀ (o : Oper) (a' : Act), freshD o.dst dec dead = true → (∀ k, o.dst ≠ some k → tmv a' k = tmv a k) → (∀ jd b, lkB dec jd = some b → tmv a' jd = .bool b) ∧ (∀ d, d ∈ dead → tmv a' d = undef) := fun o a' hf ht => by
      refine ⟨fun jd b e => ?_, fun d e => ?_⟩
      · rw [ht jd (fun e' => by have := (freshD_spec hf e').1; rw [e] at this; cases this)]
        exact hdec jd b e
      · rw [ht d (fun e' => (freshD_spec hf e').2 e)]
        exact hdead d e
    have putOther : ∀ (o : Oper) (v : Value) (k : Nat), o.dst ≠ some k → tmv (a.put o.dst v) k = tmv a k := fun o v k hk' => by
      cases hd : o.dst with
      | none => rfl
      | some d =>
        have hdk : d ≠ k := fun e => hk' (by rw [hd, e])
        simp [Act.put, tmv, Array.getElem?_setIfInBounds_ne hdk]
    have memD : ∀ (i : Nat) (o : Oper) (d : Nat), ops[i]? = some o → o.dst = some d → d ∈ dsts ops.toList := fun i o d ho hd => mem_dsts (by simpa using Array.mem_of_getElem? ho) hd
    -- a quiet step
    have follow : ∀ (i : Nat) (o : Oper) (s1 : St) (M1 : Mem) (a1 : Act), ops[i]? = some o → QuietTo o s M s1 M1 → (∀ k, o.dst ≠ some k → tmv a1 k = tmv a k) → q = true → Quiets (dsts ops.toList) s0 M0 a0 s1 M1 a1 := fun i o s1 M1 a1 ho h1 ht hq' =>
      Quiets.trans (D1 := dsts ops.toList) (hQ0 hq') ⟨fun j hj => h1.slots j fun e => hj (memD i o j ho e), fun j hj => ht j fun e => hj (memD i o j ho e), h1.blocks⟩ (fun _ h => h) (fun _ h => h)
    have fltQ : ∀ (i : Nat) (o : Oper) (s1 : St) (M1 : Mem) (a1 : Act), ops[i]? = some o → i ∈ notYet ops (zOf x dx ob st) (Region.ready .any ops listed) → QuietTo o s M s1 M1 → (∀ k, o.dst ≠ some k → tmv a1 k = tmv a k) → Flt q w0 x dx c mk M0 M1 s1 a1 dec dead (listed.setIfInBounds i true) st := fun i o s1 M1 a1 ho hi h1 ht =>
      flt_step hL hF ho (hixR i hi).1 h1.slots ht (fun _ => h1.blocks) (fun _ e => .inl e)
    have clS : ∀ i, i ∈ notYet ops (zOf x dx ob st) (Region.ready .any ops listed) → Closed .any ops (lcOf x (listed.setIfInBounds i true) st) := fun i hi => by
      rw [← lc_set listed (hixR i hi).1]
      exact closed_set hcl (hixR i hi).2
    -- an operation that is passed over
    have skips : ∀ (i : Nat) (o : Oper) (pend' : List (Nat × Nat)), ops[i]? = some o → i ∈ notYet ops (zOf x dx ob st) (Region.ready .any ops listed) → gstate ops s.env dec dead o = .skip →
        (bif freshD o.dst dec dead then match o.dst with
          | some d => drawRun C ops q n m late (listed.setIfInBounds i true) (zOf x dx ob st) pend' dec (d :: dead) (s.put o.dst .undef) k
          | none => drawRun C ops q n m late (listed.setIfInBounds i true) (zOf x dx ob st) pend' dec dead s k
        else none) = some r → ∀ pc' : Pend, (∀ m' S, pc' m' S → PendOk q late pend' M m' S) → wpAnyP P .any ops Q (m + eOf st) ((lcOf x listed st).setIfInBounds i true) pc' (a.put o.dst undef) M.w := by
      intro i o pend' ho hi hg h pc' hpc'
      rw [lc_set listed (hixR i hi).1]
      cases hf : freshD o.dst dec dead <;> simp only [hf, cond_true, cond_false] at h
      · cases h
      obtain ⟨hd1, hd2⟩ := keepDec o (a.put o.dst undef) hf (putOther o undef)
      cases hd : o.dst with
      | none =>
        rw [hd] at hd1 hd2
        simp only [hd] at h
        exact ih m late _ pend' dec dead s k r M a pc' h hI hdec hdead hpc' hql hst (flt_step hL hF ho (hixR i hi).1 (fun _ _ => rfl) (fun _ _ => rfl) (fun _ _ _ => ⟨rfl, .inl rfl⟩) (fun _ e => .inl e)) (clS i hi) hQ0 hk
      | some d =>
        rw [hd] at hd1 hd2
        simp only [hd] at h
        have hdn := hdN i o d ho hd
        have hI1 : Inv N w0 M (s.put (some d) .undef) (a.put (some d) undef) := hI.put (fun j e => by cases e; exact hdn) (by simp [R])
        refine ih m late _ pend' dec (d :: dead) _ k r M _ pc' h hI1 hd1 (fun d' e => ?_) hpc' hql hst (flt_step hL hF ho (hixR i hi).1 (fun j hj => lk_put_ne (fun e => hj (by rw [hd]; exact e))) (fun j hj => ?_) (fun _ _ _ => ⟨rfl, .inl rfl⟩) (fun d' e => ?_)) (clS i hi) (fun hq' => ?_) hk
        · rcases List.mem_cons.1 e with rfl | e
          · rw [tmv_put (by rw [hI.size]; exact hdn), if_pos rfl]
          · exact hd2 d' e
        · rw [tmv_put (by rw [hI.size]; exact hdn), if_neg (fun e => hj (by rw [hd, e]))]
        · rcases List.mem_cons.1 e with rfl | e
          · exact .inr hd
          · exact .inl e
        · refine Quiets.trans (D1 := dsts ops.toList) (hQ0 hq') ⟨fun j hj => lk_put_ne (fun e => hj (by cases e; exact memD i o d ho hd)), fun j hj => ?_, fun b hb => ⟨rfl, .inl rfl⟩⟩ (fun _ h => h) (fun _ h => h)
          rw [tmv_put (by rw [hI.size]; exact hdn), if_neg (fun e => hj (by rw [e]; exact memD i o d ho hd))]
    cases hp : pickStill ops (lset (zOf x dx ob st) listed) (i0 :: rs) with
    | some i =>
      simp only [hp] at h
      obtain ⟨hi, o, ho, hstl, hfree⟩ := pickStill_spec _ hp
      rw [← hr] at hi
      have hfree2 : ∀ j oj, ops[j]? = some oj → j ≠ i → (lcOf x listed st).getD j true = false → (∀ e ∈ oj.after, Region.binds .any e = true → e.on ≠ i) → o.apart ops oj = true := fun j oj hj hji hun => by
        refine Region.free_spec ho hfree j oj hj hji ?_
        cases st with
        | non => exact hun
        | pen => exact hun
        | flo =>
          have hjx : j ≠ x := fun e => by
            rw [e] at hun
            have := (getD_of_false (hF.sure (by simp)).2).1
            rw [show lcOf x listed Sta.flo = listed from rfl, this] at hun
            cases hun
          show (listed.setIfInBounds x false).getD j true = false
          rw [getD_setF_ne true hjx]
          exact hun
      rw [em]
      simp only [ho] at h
      cases hg : gstate ops s.env dec dead o with
      | bad => simp [hg] at h
      | ask jd b => simp only [hg] at h; rw [← em]; exact asks o jd b hg h
      | skip =>
        simp only [hg] at h
        refine wpAnyP_take (S := fun _ => True) ho hns hfree2 hcl (hixR i hi).2 (fun c a w h => absurd h (hQp c _ w)) (.inr ⟨hskip o hg, rfl⟩) trivial ?_
        refine skips i o pend ho hi hg h _ fun m' S hm => ?_
        rcases hm with ⟨_, e⟩ | e
        · subst e; exact .inl fun _ => trivial
        · exact hpc m' S e
      | run =>
        simp only [hg] at h
        cases hf : freshD o.dst dec dead <;> simp only [hf, cond_true, cond_false] at h
        · cases h
        obtain ⟨pend', hpend⟩ : ∃ pend', pend' = (bif isLoad o.op then (i, readOf s o) :: pend else pend) := ⟨_, rfl⟩
        rw [← hpend] at h
        have hsub : ∀ x, x ∈ pend → x ∈ pend' := fun x hx => by
          rw [hpend]
          cases isLoad o.op
          · exact hx
          · exact List.mem_cons_of_mem _ hx
        have hown : ∀ (s' : St) (M' : Mem), QuietTo o s M s' M' → M.w.heap.size ≤ M'.w.heap.size ∧ ∀ b, b < M.w.heap.size → LabTo (M.own b) (M'.own b) := fun s' M' h3 => ⟨size_of_blocks fun b hb => (h3.blocks b hb).1, fun b hb => (h3.blocks b hb).2⟩
        have kk : ∀ (s' : St) (M' : Mem) (a' : Act), drawRun C ops q n m late (listed.setIfInBounds i true) (zOf x dx ob st) pend' dec dead s' k = some r → Inv N w0 M' s' a' → QuietTo o s M s' M' → (∀ k, o.dst ≠ some k → tmv a' k = tmv a k) →
            ∀ S : World → Prop, PendOk q late pend' M i S → wpAnyP P .any ops Q (m + eOf st) ((lcOf x listed st).setIfInBounds i true) (pc.add i S) a' M'.w := by
          intro s' M' a' h1 h2 h3 ht S hS
          obtain ⟨hd1, hd2⟩ := keepDec o a' hf ht
          rw [lc_set listed (hixR i hi).1]
          refine ih m late _ pend' dec dead s' k r M' a' (pc.add i S) h1 h2 hd1 hd2 (fun m' S' hm => ?_) hql hst (fltQ i o s' M' a' ho hi h3 ht) (clS i hi) (follow i o s' M' a' ho h3 ht) hk
          rcases hm with ⟨e, e'⟩ | e
          · subst e; subst e'
            rcases hS with e | ⟨d, e1, e2 | ⟨B, w1, e2, e3⟩⟩
            · exact .inl e
            · exact .inr ⟨d, e1, .inl e2⟩
            · exact .inr ⟨d, e1, .inr ⟨B, w1, fun b hb => ⟨Nat.lt_of_lt_of_le (e2 b hb).1 (hown s' M' h3).1, fun hqf t htt => (e2 b hb).2 hqf t (((hown s' M' h3).2 b (e2 b hb).1).atl htt)⟩, e3⟩⟩
          · exact mono M' pend' late m' (fun d => hsub _) (fun h => h) (fun _ => hown s' M' h3) S' e
        cases hld : isLoad o.op
        · have hw := step_still (quiet := true) (K := fun a' w' => (∀ k, o.dst ≠ some k → tmv a' k = tmv a k) → ∀ S : World → Prop, PendOk q late pend' M i S → wpAnyP P .any ops Q (m + eOf st) ((lcOf x listed st).setIfInBounds i true) (pc.add i S) a' w')
            hC hI (fun d hd => hdN i o d ho hd) (fun s' M' a' h1 h2 h3 ht S hS => kk s' M' a' h1 h2 (h3 rfl) ht S hS) hstl h
          obtain ⟨v, B, hB, hrv, hK⟩ := hw
          exact wpAnyP_take (S := fun _ => True) ho hns hfree2 hcl (hixR i hi).2 (fun c a w h => absurd h (hQp c _ w)) (.inl ⟨hrun o hg, fun W _ => hrv W fun b hb => by have := (hB b hb).1; rw [hld] at this; cases this⟩) trivial
            (hK (putOther o v) _ (.inl fun _ => trivial))
        · have hw := step_load_own (quiet := true) (K := fun a' w' => (∀ k, o.dst ≠ some k → tmv a' k = tmv a k) → ∀ S : World → Prop, PendOk q late pend' M i S → wpAnyP P .any ops Q (m + eOf st) ((lcOf x listed st).setIfInBounds i true) (pc.add i S) a' w')
            hC.toCtxOk0 hI (fun d hd => hdN i o d ho hd) (fun s' M' a' h1 h2 h3 ht S hS => kk s' M' a' h1 h2 (h3 rfl) ht S hS) hld h
          obtain ⟨v, B, hB, hrv, hK⟩ := hw
          exact wpAnyP_take (S := fun W => ∀ b, B b → W.heap[b]? = M.w.heap[b]?) ho hns hfree2 hcl (hixR i hi).2 (fun c a w h => absurd h (hQp c _ w)) (.inl ⟨hrun o hg, fun W hW => hrv W hW⟩) (fun _ _ => rfl)
            (hK (putOther o v) _ (.inr ⟨readOf s o, by rw [hpend, hld]; exact List.mem_cons_self, .inr ⟨B, M.w, fun b hb => ⟨(hB b hb).1, fun _ => (hB b hb).2⟩, rfl⟩⟩))
    | none =>
      simp only [hp] at h
      cases rs with
      | cons _ _ => simp at h
      | nil =>
      cases hal : alone (zOf x dx ob st) (Region.ready .any ops listed) with
      | false => simp [hal] at h
      | true =>
      cases ho : ops[i0]? with
      | none => simp [ho] at h
      | some o =>
      simp only [ho, hal] at h
      have hi : i0 ∈ notYet ops (zOf x dx ob st) (Region.ready .any ops listed) := by rw [hr]; exact List.mem_cons_self
      have hone : ∀ j, j ∈ Region.ready .any ops (lcOf x listed st) → j = i0 ∨ (st = .pen ∧ j = x) := by
        intro j hj
        cases st with
        | non =>
          have hj' : j ∈ notYet ops (zOf x dx ob Sta.non) (Region.ready .any ops listed) := hj
          rw [hr] at hj'
          exact .inl (by simpa using hj')
        | pen =>
          rcases hconv j rfl hj with e | e
          · exact .inr ⟨rfl, e⟩
          · rw [hr] at e; exact .inl (by simpa using e)
        | flo =>
          have h1 := (hixR i0 hi).2
          have hj' : j ∈ Region.ready .any ops listed := hj
          have h1' : i0 ∈ Region.ready .any ops listed := h1
          generalize Region.ready .any ops listed = l at hal hj' h1'
          match l, hal with
          | [y], _ => simp at hj' h1'; exact .inl (by rw [hj', h1'])
          | [], hal => simp at hj'
          | _ :: _ :: _, hal => simp [alone, zOf] at hal
      have hxs : ∀ j, (st = .pen ∧ j = x) → wpOp P ops Q j (fun a' w' => (∀ m S, pc m S → ¬ Waits .any ops j m → S M.w → S w') ∧ wpAnyP P .any ops Q (m + eOf st) ((lcOf x listed st).setIfInBounds j true) (pc.drop .any ops j) a' w') a M.w := by
        rintro j ⟨hs, rfl⟩
        subst hs
        exact xstep (m + 1) rfl hfull
      rw [em]
      cases hg : gstate ops s.env dec dead o with
      | bad => simp [hg] at h
      | ask jd b => simp only [hg] at h; rw [← em]; exact asks o jd b hg h
      | skip =>
        simp only [hg] at h
        refine wpAnyP_one (fun j => st = .pen ∧ j = x) (hixR i0 hi).2 hone hxs ?_
        unfold wpOp
        simp only [ho, hskip o hg, Bool.false_eq_true, if_false]
        exact ⟨fun _ _ _ _ h => h, skips i0 o _ ho hi hg h _ fun m' S hm => mono M _ late m' (fun d => mem_unwaited hm.2) (fun h => h) (fun _ => ⟨Nat.le_refl _, fun _ _ => .inl rfl⟩) S hm.1⟩
      | run =>
        simp only [hg] at h
        cases hf : freshD o.dst dec dead <;> simp only [hf, cond_true, cond_false] at h
        · cases h
        refine wpAnyP_one (fun j => st = .pen ∧ j = x) (hixR i0 hi).2 hone hxs ?_
        unfold wpOp
        simp only [ho, hrun o hg, if_true]
        refine .inl ?_
        cases hc : (!(q || !noneB (zOf x dx ob st)) && pend.all (fun p => waitsB ops i0 p.1 || (!late && apartB (touches s o) p.2))) <;> simp only [hc, cond_true, cond_false] at h
        · cases hc2 : (!late && quietOp o.op) <;> simp only [hc2, cond_true, cond_false] at h
          · cases h
          simp only [Bool.and_eq_true, Bool.not_eq_true'] at hc2
          have hw := step_sound (quiet := true) (Q := Q) (K := fun a' w' => (∀ k, o.dst ≠ some k → tmv a' k = tmv a k) → (∀ m' S, pc m' S → ¬ Waits .any ops i0 m' → S M.w → S w') ∧ wpAnyP P .any ops Q (m + eOf st) ((lcOf x listed st).setIfInBounds i0 true) (pc.drop .any ops i0) a' w')
            hC hI (fun d hd => hdN i0 o d ho hd) (fun s' M' a' h1 h2 h3 ht => by
              obtain ⟨hd1, hd2⟩ := keepDec o a' hf ht
              rw [lc_set listed (hixR i0 hi).1]
              refine ⟨fun m' S hm _ hS => ?_, ih m late _ _ dec dead s' k r M' a' (pc.drop .any ops i0) h1 h2 hd1 hd2 (fun m' S hm => mono M' _ late m' (fun d => mem_unwaited hm.2) (fun h => h) (fun _ => ⟨size_of_blocks fun b hb => ((h3 rfl).blocks b hb).1, fun b hb => ((h3 rfl).blocks b hb).2⟩) S hm.1) hql hst
                (fltQ i0 o s' M' a' ho hi (h3 rfl) ht) (clS i0 hi) (follow i0 o s' M' a' ho (h3 rfl) ht) hk⟩
              rcases hpc m' S hm with e | ⟨d, _, e | ⟨B, w1, e1, e2⟩⟩
              · exact e _
              · rw [hc2.1] at e; cases e
              · subst e2
                intro b hb
                rw [((h3 rfl).blocks b (e1 b hb).1).1]
                exact hS b hb) (fun _ => hc2.2) h
          exact Oper.wp_mono (fun a' w' hh => hh.1 hh.2) (wp_put hw)
        · simp only [Bool.and_eq_true, List.all_eq_true, Bool.or_eq_true] at hc
          have hcq : q = false := by
            cases q
            · rfl
            · have := hc.1; simp at this
          simp only [Bool.not_eq_true'] at hc
          have hsn : st = .non := by
            cases st with
            | non => rfl
            | _ => have := hc.1; simp [zOf, noneB] at this
          have rest : ∀ (late' : Bool) (s' : St) (M' : Mem) (a' : Act), drawRun C ops q n m late' (listed.setIfInBounds i0 true) (zOf x dx ob st) (unwaited ops i0 pend) dec dead s' k = some r → Inv N w0 M' s' a' → (∀ k, o.dst ≠ some k → tmv a' k = tmv a k) → (∀ m' S, pc m' S → ¬ Waits .any ops i0 m' → PendOk q late' (unwaited ops i0 pend) M' m' S) →
              wpAnyP P .any ops Q (m + eOf st) ((lcOf x listed st).setIfInBounds i0 true) (pc.drop .any ops i0) a' M'.w := by
            intro late' s' M' a' h1 h2 ht hp2
            obtain ⟨hd1, hd2⟩ := keepDec o a' hf ht
            rw [lc_set listed (hixR i0 hi).1]
            exact ih m late' _ _ dec dead s' k r M' a' (pc.drop .any ops i0) h1 h2 hd1 hd2 (fun m' S hm => hp2 m' S hm.1 hm.2) (fun e => by rw [hcq] at e; cases e) (fun e => absurd hsn e) (by subst hsn; trivial) (clS i0 hi) (fun hq => by rw [hcq] at hq; cases hq) hk
          cases ht : touches s o with
          | some t =>
            -- something is touched beside what was read
            rw [ht] at h
            have hw := step_touch (Q := Q) (K := fun a' w' => (∀ k, o.dst ≠ some k → tmv a' k = tmv a k) → (∀ m' S, pc m' S → ¬ Waits .any ops i0 m' → S M.w → S w') ∧ wpAnyP P .any ops Q (m + eOf st) ((lcOf x listed st).setIfInBounds i0 true) (pc.drop .any ops i0) a' w')
              hC.toCtxOk0 hI (fun d hd => hdN i0 o d ho hd) (i := t) (fun s' M' a' h1 h2 h3 htt => by
                have hne : ∀ m' d, (m', d) ∈ pend → ¬ Waits .any ops i0 m' → late = false ∧ d ≠ t + 1 := fun m' d e hnw => by
                  rcases hc.2 _ e with h | h
                  · exact absurd (waits_of h) hnw
                  · rw [ht] at h
                    simp only [apartB, Bool.and_eq_true, Bool.not_eq_true'] at h
                    refine ⟨h.1, fun e2 => ?_⟩
                    have h2 := h.2
                    rw [← Bool.not_eq_true, Nat.beq_eq] at h2
                    exact h2 e2
                refine ⟨fun m' S hm hnw hS => ?_, rest _ s' M' a' h1 h2 htt fun m' S hm hnw => ?_⟩
                · rcases hpc m' S hm with e | ⟨d, e, e' | ⟨B, w1, e1, e2⟩⟩
                  · exact e _
                  · have := (hne m' d e hnw).1; rw [e'] at this; cases this
                  · subst e2
                    intro b hb
                    rw [(h3 b (e1 b hb).1 (fun eo => (hne m' d e hnw).2 ((e1 b hb).2 hcq t eo).symm)).1]
                    exact hS b hb
                · rcases hpc m' S hm with e | ⟨d, e, e' | ⟨B, w1, e1, e2⟩⟩
                  · exact .inl e
                  · have := (hne m' d e hnw).1; rw [e'] at this; cases this
                  · refine .inr ⟨d, mem_unwaited hnw e, .inr ⟨B, w1, fun b hb => ?_, e2⟩⟩
                    have hk2 := h3 b (e1 b hb).1 (fun eo => (hne m' d e hnw).2 ((e1 b hb).2 hcq t eo).symm)
                    refine ⟨?_, fun _ t' ht' => (e1 b hb).2 hcq t' (by rw [← hk2.2]; exact ht')⟩
                    exact heap_lt (hk2.1.trans (Array.getElem?_eq_getElem (e1 b hb).1))) ht h
            exact Oper.wp_mono (fun a' w' hh => hh.1 hh.2) (wp_put hw)
          | none =>
            rw [ht] at h
            have hall : ∀ p, p ∈ pend → waitsB ops i0 p.1 = true := fun p hp => (hc.2 p hp).elim (fun h => h) (fun h => by rw [ht] at h; simp [apartB] at h)
            have hlt : (late || noneB (none : Option Nat)) = true := by cases late <;> rfl
            rw [hlt] at h
            have hw := step_sound (quiet := false) (Q := Q) (K := fun a' w' => (∀ k, o.dst ≠ some k → tmv a' k = tmv a k) → (∀ m' S, pc m' S → ¬ Waits .any ops i0 m' → S M.w → S w') ∧ wpAnyP P .any ops Q (m + eOf st) ((lcOf x listed st).setIfInBounds i0 true) (pc.drop .any ops i0) a' w')
              hC hI (fun d hd => hdN i0 o d ho hd) (fun s' M' a' h1 h2 _ htt => by
                refine ⟨fun m' S hm hnw hS => ?_, rest true s' M' a' h1 h2 htt fun m' S hm hnw => ?_⟩
                · rcases hpc m' S hm with e | ⟨d, e, _⟩
                  · exact e _
                  · exact absurd (waits_of (hall _ e)) hnw
                · rcases hpc m' S hm with e | ⟨d, e, _⟩
                  · exact .inl e
                  · exact absurd (waits_of (hall _ e)) hnw) (fun e => by cases e) h
            exact Oper.wp_mono (fun a' w' hh => hh.1 hh.2) (wp_put hw)

/-- One more order has been drawn. -/
def Mem.drew (M : Mem) : Mem := { M with w := { M.w with drawn := M.w.drawn + 1 } }

theorem Inv.drew {M : Mem} {s : St} {a : Act} (h : Inv N w0 M s a) : Inv N w0 M.drew s a := by
  have hT : Turn M M.drew (fun _ => False) := ⟨⟨Nat.le_refl _, fun _ _ => rfl, fun _ _ h => ⟨h, rfl⟩⟩, ⟨rfl, rfl, rfl, Nat.le_refl _, fun _ _ _ => ⟨rfl, rfl⟩⟩, fun _ _ _ h _ => ⟨h, rfl⟩⟩
  exact h.turn hT rfl

theorem constsB_eval {a a' : Act} : ∀ {l : List (Nat × Operand)}, constsB l = true → (l.map fun p => (p.1, a.eval p.2)) = l.map fun p => (p.1, a'.eval p.2)
  | [], _ => rfl
  | (i, .const v) :: l, h => by
    simp only [constsB] at h
    simp only [List.map_cons]
    rw [constsB_eval (a := a) (a' := a') h]
    rfl
  | (i, .tmp t) :: l, h => by simp [constsB] at h

theorem lazy_lzy (hC : CtxOk P C) {s : St} {M : Mem} {a : Act} (hI : Inv N w0 M s a) (hdN : ∀ (i : Nat) (o : Oper) (d : Nat), ops[i]? = some o → o.dst = some d → d < N) {x dx : Nat} {ob : Ob} {o : Oper} (ho : ops[x]? = some o) (hd : o.dst = some dx) (hob : lazyOb C s o = some ob)
    (hg : o.guard = none) (haf : o.after.toList = []) (hoth : ∀ j o, ops[j]? = some o → j ≠ x → o.dst ≠ some dx) : ∃ c mk, Lzy P ops N x dx ob c mk := by
  unfold lazyOb at hob
  cases hop : o.op <;> simp only [hop] at hob <;> try (cases hob; done)
  · rename_i T
    cases hT : C.ty T with
    | none => simp [hT] at hob
    | some t =>
      simp only [hT, Option.some.injEq] at hob
      subst hob
      obtain ⟨i, z, hi, _, hz, _, h3⟩ := (hC.ty _ _ hT).info
      refine ⟨.cells z.cells T, fun p => .pointer (some ⟨p, 0, none⟩), ⟨o, ho, hg, haf, hd, fun a w => ?_⟩, hdN x o dx ho hd, hoth, fun _ => rfl, fun M' p hp hh => ?_⟩
      · have h1 : (zeroValue T).run P w = .ok z w := by simp [zeroValue, typeInfo, hi, hz]
        simp [execOp, hop, Instr.alloc, h1, newVar, newRow]
      · exact ⟨p, z.cells, by simp [Mem.claim], by simp [Mem.claim], hh, (zeroOk_rep h3).2⟩
  · rename_i T n ps
    cases hcst : constsB ps.toList <;> simp only [hcst, cond_true, cond_false] at hob
    · cases hob
    split at hob
    · rename_i q e hT
      cases hb : buildL s e 0 ps.toList with
      | none => simp [hb] at hob
      | some p =>
        obtain ⟨l, ids⟩ := p
        simp only [hb] at hob
        cases hc : (e.scalar && (Nat.beq l.length n && (Nat.ble (n * e.size) 16777216 && (Nat.ble n 16777216 && Nat.beq (hot s.σ ids).length 0)))) <;> simp only [hc, cond_true, cond_false] at hob
        · cases hob
        simp only [Option.some.injEq] at hob
        subst hob
        simp only [Bool.and_eq_true, Nat.ble_eq] at hc
        obtain ⟨hsc, hln, hc1, hc2, hc3⟩ := hc
        have hln := Nat.eq_of_beq_eq_true hln
        subst hln
        have hnil : hot s.σ ids = [] := List.eq_nil_of_length_eq_zero (Nat.eq_of_beq_eq_true hc3)
        have hsee : Sees M M (hot s.σ ids) := by rw [hnil]; exact fun b hb h => h.elim (fun h => ⟨h, rfl⟩) (fun ⟨_, h, _⟩ => by simp at h)
        obtain ⟨E, hu, _, he, hE⟩ := (hC.ty _ _ hT).under_slice
        obtain ⟨i, z, k1, k2, k3, k4, k5⟩ := hE.info
        have hel := hC.elem _ _ _ _ hT hu
        have hns : ¬ List.length l * e.size > 2 ^ 24 := by omega
        have hrun : ∃ (cells' : Array Value) (css : List (List Value)), (∀ (a' : Act) (w : World), (Instr.buildSlice T (List.length l) (ps.map fun (i, x) => (i, a'.eval x))).run P w = .ok (.slice (some ⟨w.heap.size, 0, none⟩) (List.length l) (List.length l)) (w.alloc (.cells cells' E))) ∧
            cells'.toList = [] ++ css.flatten ∧ repAll (rep M e) css l := by
          by_cases h0 : List.length l * e.size = 0
          · obtain ⟨cells', css, f1, f2, f3⟩ := fill_rows hI (M' := M) ps.toList 0 l ids #[] [] hb hsee (by simp) (by simp) (by simpa using h0.symm)
            refine ⟨cells', css, fun a' w => ?_, f2, f3⟩
            rw [constsB_eval (a' := a') hcst] at f1
            simp only [Instr.buildSlice, Sem.run_bind, run_underlying hu, hE.run_sizeOf, Result.andThen_ok, h0, if_true]
            simp [newRow, f1, Array.range_zero']
          · obtain ⟨cells', css, f1, f2, f3⟩ := fill_rows hI (M' := M) ps.toList 0 l ids ((Array.range (List.length l * e.size)).map (z.cells[· % z.cells.size]!)) [] hb hsee (by simp) (by simp) (by simp)
            refine ⟨cells', css, fun a' w => ?_, f2, f3⟩
            rw [constsB_eval (a' := a') hcst] at f1
            have hz : (zeroValue E).run P w = .ok z w := by simp [zeroValue, typeInfo, k1, k3]
            simp only [Instr.buildSlice, Sem.run_bind, run_underlying hu, hE.run_sizeOf, Result.andThen_ok, if_neg hns, if_neg h0, hz, Sem.run_pure, Array.toList_map, f1]
            simp [newRow]
        obtain ⟨cells', css, hrun, f2, f3⟩ := hrun
        refine ⟨.cells cells' E, fun p => .slice (some ⟨p, 0, none⟩) (List.length l) (List.length l), ⟨o, ho, hg, haf, hd, fun a w => ?_⟩, hdN x o dx ho hd, hoth, fun _ => rfl, fun M' p hp hh => ?_⟩
        · simp only [execOp, hop, Sem.run_bind, hrun, Result.andThen_ok, Sem.run_pure]
        · have hfl := flatten_length f3
          refine ⟨he, some ⟨p, 0, none⟩, List.length l, by simp [Mem.claim], Nat.le_refl _, by simp only [maxLen]; omega, .inr ⟨p, cells', css, rfl, by simp [Mem.claim], by rw [← hel]; exact hh, ?_, ?_, repAll_mono (fun _ _ => rep_scalar hsc) f3⟩⟩
          · have h2 := congrArg List.length f2
            simp at h2
            rw [h2]; simpa using hfl
          · rw [f2]
            simp only [List.nil_append]
            rw [List.take_of_length_le (by omega)]
    · cases hob

theorem lazyAt_spec {s : St} {x dx : Nat} {ob : Ob} : ∀ (n : Nat), lazyAt C s ops n = some (x, dx, ob) → ∃ o, ops[x]? = some o ∧ o.dst = some dx ∧ lazyOb C s o = some ob ∧ o.guard = none ∧ o.after.toList = [] ∧ countD dx (dsts ops.toList) = 1
  | 0, h => by simp [lazyAt] at h
  | y + 1, h => by
    simp only [lazyAt] at h
    cases ho : ops[y]? with
    | none => simp only [ho] at h; exact lazyAt_spec y h
    | some o =>
      simp only [ho] at h
      split at h
      · rename_i d ob' hd hob
        cases hc : (noneB o.guard && (Nat.beq o.after.toList.length 0 && (Nat.beq (countD d (dsts ops.toList)) 1 && besides ops y ops.size))) <;> simp only [hc, cond_true, cond_false] at h
        · exact lazyAt_spec y h
        · simp only [Option.some.injEq, Prod.mk.injEq] at h
          obtain ⟨rfl, rfl, rfl⟩ := h
          simp only [Bool.and_eq_true] at hc
          refine ⟨o, ho, hd, hob, ?_, List.eq_nil_of_length_eq_zero (Nat.eq_of_beq_eq_true hc.2.1), Nat.eq_of_beq_eq_true hc.2.2.1⟩
          cases hg : o.guard with
          | none => rfl
          | some _ => rw [hg] at hc; simp [noneB] at hc
      · exact lazyAt_spec y h

theorem countD_cons (d i : Nat) (l : List Nat) : countD d (i :: l) = (if i = d then 1 else 0) + countD d l := by
  simp only [countD]
  by_cases h : i = d
  · subst h; simp; omega
  · have : Nat.beq i d = false := by rw [← Bool.not_eq_true, Nat.beq_eq]; exact h
    simp [this, h]

theorem dsts_cons' (o : Oper) (l : List Oper) : dsts (o :: l) = (match o.dst with | some d => [d] | none => []) ++ dsts l := by
  simp only [dsts]
  cases o.dst <;> rfl

theorem countD_pos {d : Nat} {o : Oper} : ∀ {l : List Oper}, o ∈ l → o.dst = some d → 1 ≤ countD d (dsts l)
  | p :: l, h, hd => by
    rw [dsts_cons']
    rcases List.mem_cons.1 h with rfl | h
    · rw [hd]; simp only [List.cons_append, List.nil_append]; rw [countD_cons, if_pos rfl]; omega
    · have := countD_pos h hd
      cases p.dst with
      | none => exact this
      | some e => simp only [List.cons_append, List.nil_append]; rw [countD_cons]; omega

theorem countD_one {d : Nat} {ox oj : Oper} (hxd : ox.dst = some d) (hjd : oj.dst = some d) : ∀ (l : List Oper) (x j : Nat), countD d (dsts l) = 1 → l[x]? = some ox → l[j]? = some oj → j = x := by
  intro l
  induction l with
  | nil => intro x j _ hx; simp at hx
  | cons p l ih =>
    intro x j hc hx hj
    rw [dsts_cons'] at hc
    rcases x with _ | x <;> rcases j with _ | j
    · rfl
    · rw [List.getElem?_cons_zero] at hx
      rw [List.getElem?_cons_succ] at hj
      cases hx
      rw [hxd] at hc
      simp only [List.cons_append, List.nil_append] at hc
      rw [countD_cons, if_pos rfl] at hc
      have := countD_pos (List.mem_of_getElem? hj) hjd
      omega
    · rw [List.getElem?_cons_zero] at hj
      rw [List.getElem?_cons_succ] at hx
      cases hj
      rw [hjd] at hc
      simp only [List.cons_append, List.nil_append] at hc
      rw [countD_cons, if_pos rfl] at hc
      have := countD_pos (List.mem_of_getElem? hx) hxd
      omega
    · rw [List.getElem?_cons_succ] at hx hj
      have h1 := countD_pos (List.mem_of_getElem? hx) hxd
      have : countD d (dsts l) = 1 := by
        cases hp : p.dst with
        | none => rw [hp] at hc; exact hc
        | some e => rw [hp] at hc; simp only [List.cons_append, List.nil_append] at hc; rw [countD_cons] at hc; omega
      rw [ih x j this hx hj]

/-- The run from a region's start. -/
theorem draw_start (hC : CtxOk P C) (hdN : ∀ (i : Nat) (o : Oper) (d : Nat), ops[i]? = some o → o.dst = some d → d < N) (hns : Region.noSelect ops = true) (hQp : ∀ c a w, ¬ Q (.panic c) a w) {q : Bool} {s : St} {T : Type} {k : St → Option T} {r : T} {M : Mem} {a : Act} (hI : Inv N w0 M s a)
    {f : Nat}
    (h : drawRun C ops q f (lazyM (lazyAt C s ops ops.size) ops.size) false (lazyL (lazyAt C s ops ops.size) (Array.replicate ops.size false)) (lazyAt C s ops ops.size) [] [] [] (lazyS (lazyAt C s ops ops.size) s) k = some r)
    (hk : ∀ s' M' a', k s' = some r → Inv N w0 M' s' a' → (q = true → Quiets (dsts ops.toList) s M a s' M' a') → Q .normal a' M'.w) : wpAnyP P .any ops Q ops.size (Array.replicate ops.size false) (fun _ _ => False) a M.w := by
  have hw0 : w0.heap.size ≤ M.w.heap.size := hI.frame.size
  cases hz : lazyAt C s ops ops.size with
  | none =>
    rw [hz] at h
    exact draw_gen hC hdN hns hQp (x := 0) (dx := 0) (ob := .gone) (c := .cells #[] 0) (mk := fun _ => Go.undef) (M0 := M) (s0 := s) (a0 := a) hw0 .non (fun h => absurd rfl h) (fun h => absurd rfl h) (fun h => by cases h)
      f ops.size false _ [] [] [] s k r M a _ h hI (fun _ _ e => by simp [lkB] at e) (fun _ e => by simp at e) (fun _ _ e => e.elim) (fun _ => rfl) (fun e => absurd rfl e) trivial (closed_none _) (fun _ => Quiets.refl _) hk
  | some z =>
    obtain ⟨x, dx, ob⟩ := z
    rw [hz] at h
    obtain ⟨o, ho, hd, hob, hg, haf, hcnt⟩ := lazyAt_spec _ hz
    have hD : dx ∈ dsts ops.toList := mem_dsts (by simpa using Array.mem_of_getElem? ho) hd
    obtain ⟨c, mk, L⟩ := lazy_lzy hC hI hdN ho hd hob hg haf (fun j oj hj hne e => hne (countD_one hd e _ x j hcnt (by simpa using ho) (by simpa using hj)))
    have hlt : x < ops.size := (Array.getElem?_eq_some_iff.1 ho).1
    have hxl : (lazyL (some (x, dx, ob)) (Array.replicate ops.size false)).getD x false = true := by simp [lazyL, hlt]
    have hnon := draw_gen (w0 := w0) (Q := Q) hC hdN hns hQp (q := q) (x := x) (dx := dx) (ob := ob) (c := c) (mk := mk) (M0 := M) (s0 := s) (a0 := a) hw0 .non (fun h => absurd rfl h) (fun h => absurd rfl h) (fun h => by cases h)
    have hflo := draw_gen (w0 := w0) (Q := Q) hC hdN hns hQp (q := q) (x := x) (dx := dx) (ob := ob) (c := c) (mk := mk) (M0 := M) (s0 := s) (a0 := a) hw0 .flo (fun _ => L) (fun _ => hnon) (fun h => by cases h)
    have hpen := draw_gen (w0 := w0) (Q := Q) hC hdN hns hQp (q := q) (x := x) (dx := dx) (ob := ob) (c := c) (mk := mk) (M0 := M) (s0 := s) (a0 := a) hw0 .pen (fun _ => L) (fun _ => hnon) (fun _ => hflo)
    have hI1 : Inv N w0 M (s.kill [dx]) a := by
      refine ⟨⟨fun j => ?_, hI.holds.args, hI.holds.objs, hI.holds.nx⟩, hI.frame, hI.defers, hI.size⟩
      show R _ (lk ((dx, .undef) :: s.env) j) _
      rw [lk_cons]
      by_cases h : j = dx
      · rw [if_pos h]; simp [R]
      · rw [if_neg h]; exact hI.holds.slots j
    have hlc : lcOf x (lazyL (some (x, dx, ob)) (Array.replicate ops.size false)) .pen = Array.replicate ops.size false := by
      apply Array.ext_getElem?
      intro i
      simp only [lcOf, lazyL, Array.setIfInBounds_setIfInBounds]
      by_cases hi : x = i
      · subst hi; simp [hlt]
      · rw [Array.getElem?_setIfInBounds_ne hi]
    have := hpen f (ops.size - 1) false _ [] [] [] (s.kill [dx]) k r M a (fun _ _ => False) h hI1 (fun _ _ e => by simp [lkB] at e) (fun _ e => by simp at e) (fun _ _ e => e.elim) (fun _ => rfl) (fun _ => rfl)
      ⟨by show lk ((dx, .undef) :: s.env) dx = _; rw [lk_cons, if_pos rfl], hxl, by simp [lkB], by simp⟩ (by rw [hlc]; exact closed_none _) (fun _ => ⟨fun j hj => by
        show lk ((dx, .undef) :: s.env) j = _
        rw [lk_cons, if_neg (fun e => hj (by rw [e]; exact hD))], fun _ _ => rfl, fun _ _ => ⟨rfl, .inl rfl⟩⟩) hk
    rw [hlc, show ops.size - 1 + eOf .pen = ops.size by simp only [eOf]; omega] at this
    exact this

theorem draw_reg (hC : CtxOk P C) {id : Nat} {s : St} {T : Type} {k : St → Option T} {r : T} {M : Mem} {a : Act} (hd : ∀ o, o ∈ ops.toList → ∀ d, o.dst = some d → d < N) (h : drawReg C ops s k = some r) (hI : Inv N w0 M s a)
    (hk : ∀ s' M' a', k s' = some r → Inv N w0 M' s' a' → Q .normal a' M'.w) : (Code.region id ops true).wp P Q a M.w := by
  refine wp_mono (Q := fun e a w => match e with
    | .normal => Q .normal a w
    | _ => False) (wp_region_P hC.mixed ?_) (fun e a w h => by cases e <;> first | exact h | exact h.elim)
  unfold drawReg at h
  have hns : Region.noSelect ops = true := by
    cases hs : Region.noSelect ops
    · rw [hs] at h; cases h
    · rfl
  have hdN : ∀ (i : Nat) (o : Oper) (d : Nat), ops[i]? = some o → o.dst = some d → d < N := fun i o d ho hd' => hd o (by simpa using Array.mem_of_getElem? ho) d hd'
  simp only [hns, Bool.not_true, cond_false] at h
  have hId := hI.drew
  cases hg : hasGuard ops.toList <;> simp only [hg, cond_true, cond_false] at h
  · exact draw_start hC hdN hns (fun _ _ _ h => h) hId h (fun s' M' a' e1 e2 _ => hk s' M' a' e1 e2)
  · cases hl : lastDst ops.toList with
    | none => simp [hl] at h
    | some d =>
      simp only [hl, Option.bind_eq_some_iff] at h
      obtain ⟨rb, h1, h2⟩ := h
      refine draw_start hC hdN hns (fun _ _ _ h => h) hId h1 (fun s' M' a' e1 e2 e3 => ?_)
      have hb := bool?_eq e1
      have hq := e3 rfl
      have hv : tmv a' d = .bool rb := bool_slot e2 hb
      have hI1 := hId.roll (D := dsts ops.toList) (M' := M') (a' := a') hq.tm (fun b hb => (hq.blocks b hb).1) e2.frame e2.defers e2.size
      have hI2 : Inv N w0 (M.drew.roll M') (s.ask ops.toList d rb) a' := by
        refine ⟨⟨fun j => ?_, hI1.holds.args, hI1.holds.objs, hI1.holds.nx⟩, hI1.frame, hI1.defers, hI1.size⟩
        show R _ (lk ((d, .d .bool rb) :: killed (dsts ops.toList) s.env) j) _
        rw [lk_cons]
        by_cases h : j = d
        · rw [if_pos h, h, hv]; simp only [R]; exact ⟨[.bool rb], rfl, rfl⟩
        · rw [if_neg h]; exact hI1.holds.slots j
      exact hk _ (M.drew.roll M') a' h2 hI2
end
end Go.Lift
