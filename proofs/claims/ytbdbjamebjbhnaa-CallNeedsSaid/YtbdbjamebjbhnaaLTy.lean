import Derived.Test.YtbdbjamebjbhnaaLView
set_option linter.all false
/- THE TYPES OF A PROGRAM, AND THE DATA TYPES THAT STAND FOR THEM. -/
namespace Go.Lift

/-- Are these the cells of a zero value? -/
def zeroOk : Ty → List Value → Bool
  | .int k, [.int k' n] => kindBeq k k' && (n == 0)
  | .bool, [.bool b] => !b
  | .str, [.string s] => s.size == 0
  | .slice q e, [.slice none 0 0] => e.pure && Nat.beq q 0
  | .nilp m, [.pointer none] => !m
  | .nilp m, [.map none] => m
  | .nil, [] => true
  | .cons a b, cs => zeroOk a (cs.take a.size) && zeroOk b (cs.drop a.size)
  | .arr n e, cs => e.pure && Nat.beq cs.length (n * e.size) && (List.range n).all fun i => zeroOk e ((cs.drop (i * e.size)).take e.size)
  | .any, [v] => v.oneCell'
  | _, _ => false

def kindOf? : Option TypeDesc → Option IntKind
  | some (.int k) => some k
  | _ => none

mutual
def tyOkB (P : Program) : Nat → TypeId → Ty → Bool
  | 0, _, _ => false
  | n + 1, T, t => match P.info? T with
    | none => false
    | some i => (i.size == t.size) && (match i.zero with
        | some z => match t.isAgg, z with
          | true, .agg cs => zeroOk t cs.toList
          | false, z => zeroOk t [z]
          | _, _ => false
        | none => false) && (match P.underlying T, t with
        | some (.int k), .int k' => kindBeq k k'
        | some .bool, .bool => true
        | some .string, .str => true
        | some (.slice E), .slice q e => Nat.beq q 0 && e.pure && tyOkB P n E e
        | some (.array m E), .arr m' e => Nat.beq m m' && tyOkB P n E e
        | some (.struct fs), t => fldsOkB P n fs.toList t 0
        | some (.pointer _), .nilp m => !m
        | some (.map _ _), .nilp m => m
        | some (.func _ _ _), .any | some (.interface _), .any => true
        | _, _ => false)
def fldsOkB (P : Program) : Nat → List Field → Ty → Nat → Bool
  | 0, _, _, _ => false
  | _ + 1, [], .nil, _ => true
  | n + 1, f :: fs, .cons a b, off => Nat.beq f.offset off && tyOkB P n f.type a && fldsOkB P n fs b (off + a.size)
  | _ + 1, _, _, _ => false
end

def TyOk (P : Program) (T : TypeId) (t : Ty) : Prop := ∃ n, tyOkB P n T t = true

section
variable {P : Program} {T : TypeId} {t : Ty}

theorem zeroOk_rep {M : Mem} : ∀ {t : Ty} {cs : List Value}, zeroOk t cs = true → rep M t cs t.zero ∧ rep M t.zt cs t.zt.zero := by
  have one : ∀ {t : Ty} {cs : List Value}, t.isAgg = false → zeroOk t cs = true → ∃ v, cs = [v] := by
    intro t cs ha h
    rcases cs with _ | ⟨v, _ | ⟨u, l⟩⟩
    · cases t <;> simp [Ty.isAgg, zeroOk] at ha h
    · exact ⟨v, rfl⟩
    · cases t <;> simp [Ty.isAgg, zeroOk] at ha h
  intro t
  induction t with
  | int k =>
    intro cs h
    obtain ⟨v, rfl⟩ := one rfl h
    cases v <;> simp [zeroOk] at h
    simp [rep, Ty.zero, Ty.zt, kindBeq_eq h.1, h.2]
  | bool =>
    intro cs h
    obtain ⟨v, rfl⟩ := one rfl h
    cases v <;> simp [zeroOk] at h
    simp [rep, Ty.zero, Ty.zt, h]
  | str =>
    intro cs h
    obtain ⟨v, rfl⟩ := one rfl h
    cases v <;> simp [zeroOk] at h
    subst h
    exact ⟨rfl, rfl⟩
  | slice q e _ =>
    intro cs h
    obtain ⟨v, rfl⟩ := one rfl h
    cases v with
    | slice a n c =>
      cases a <;> cases n <;> cases c <;> simp [zeroOk] at h
      obtain ⟨h, rfl⟩ := h
      exact ⟨⟨h, none, 0, rfl, Nat.le_refl _, Nat.zero_le _, by omega, by omega, by omega, fun hn => absurd rfl hn⟩,
        ⟨h, none, 0, rfl, Nat.le_refl _, Nat.zero_le _, by omega, by omega, fun _ => ⟨rfl, rfl⟩, fun hn => absurd rfl hn⟩⟩
    | _ => simp [zeroOk] at h
  | nil => intro cs h; cases cs <;> simp [zeroOk] at h; exact ⟨rfl, rfl⟩
  | any =>
    intro cs h
    obtain ⟨v, rfl⟩ := one rfl h
    exact ⟨⟨v, rfl, by simpa [zeroOk] using h⟩, ⟨v, rfl, by simpa [zeroOk] using h⟩⟩
  | ref i => intro cs h; obtain ⟨v, rfl⟩ := one rfl h; cases v <;> simp [zeroOk] at h
  | iptr e _ => intro cs h; obtain ⟨v, rfl⟩ := one rfl h; cases v <;> simp [zeroOk] at h
  | atl e _ => intro cs h; obtain ⟨v, rfl⟩ := one rfl h; cases v <;> simp [zeroOk] at h
  | fn f c _ => intro cs h; obtain ⟨v, rfl⟩ := one rfl h; cases v <;> simp [zeroOk] at h
  | nilp m =>
    intro cs h
    obtain ⟨v, rfl⟩ := one rfl h
    cases v with
    | pointer a => cases a <;> simp [zeroOk] at h; subst h; exact ⟨rfl, rfl⟩
    | map a => cases a <;> simp [zeroOk] at h; subst h; exact ⟨rfl, rfl⟩
    | _ => simp [zeroOk] at h
  | cons a b iha ihb =>
    intro cs h
    have h' : zeroOk a (cs.take a.size) = true ∧ zeroOk b (cs.drop a.size) = true := by simpa [zeroOk] using h
    exact ⟨⟨cs.take a.size, cs.drop a.size, by simp, (iha h'.1).1, (ihb h'.2).1⟩, ⟨cs.take a.size, cs.drop a.size, by simp, (iha h'.1).2, (ihb h'.2).2⟩⟩
  | arr n e ih =>
    intro cs h
    have h' : (e.pure = true ∧ cs.length = n * e.size) ∧ ∀ i, i < n → zeroOk e ((cs.drop (i * e.size)).take e.size) = true := by simpa [zeroOk] using h
    obtain ⟨⟨he, hl⟩, hz⟩ := h'
    have key : ∀ (n : Nat) (cs : List Value), cs.length = n * e.size → (∀ i, i < n → zeroOk e ((cs.drop (i * e.size)).take e.size) = true) →
        ∃ css, cs = css.flatten ∧ repAll (rep M e) css (List.replicate n e.zero) := by
      intro n
      induction n with
      | zero => intro cs hl _; exact ⟨[], by simpa using hl, trivial⟩
      | succ n ih2 =>
        intro cs hl hz
        obtain ⟨css, h1, h2⟩ := ih2 (cs.drop e.size) (by simp [hl, Nat.add_mul]) (fun i hi => by
          have := hz (i + 1) (by omega)
          rwa [Nat.add_mul, Nat.one_mul, Nat.add_comm, ← List.drop_drop] at this)
        refine ⟨cs.take e.size :: css, by simp [← h1], ?_, h2⟩
        have := hz 0 (by omega)
        simpa using (ih (by simpa using this)).1
    obtain ⟨css, h1, h2⟩ := key n cs hl hz
    have := show rep M (.arr n e) cs (Ty.zero (.arr n e)) from ⟨he, by simp [Ty.zero], css, h1, h2⟩
    exact ⟨this, this⟩

theorem TyOk.info (h : TyOk P T t) : ∃ i z, P.info? T = some i ∧ i.size = t.size ∧ i.zero = some z ∧ z = valOf t z.cells.toList ∧ zeroOk t z.cells.toList = true := by
  obtain ⟨n, h⟩ := h
  cases n with
  | zero => simp [tyOkB] at h
  | succ n =>
    unfold tyOkB at h
    cases hi : P.info? T with
    | none => simp [hi] at h
    | some i =>
      simp only [hi, Bool.and_eq_true, beq_iff_eq] at h
      obtain ⟨⟨hs, hz⟩, _⟩ := h
      cases hz0 : i.zero with
      | none => simp [hz0] at hz
      | some z =>
        simp only [hz0] at hz
        refine ⟨i, z, rfl, hs, hz0, ?_⟩
        by_cases ha : t.isAgg = true
        · cases z <;> simp only [ha] at hz <;> try (cases hz; done)
          rename_i cs
          exact ⟨by simp [valOf, ha, Value.cells], by simpa [Value.cells] using hz⟩
        · have ha' : t.isAgg = false := by simpa using ha
          simp only [ha'] at hz
          have h1 : z.oneCell' = true := rep_oneCell (zeroOk_rep (M := ⟨fun _ => undef, 0, fun _ => .imm, default⟩) hz).1 z (by simp)
          have hc := cells_of_oneCell h1
          exact ⟨by simp [valOf, ha', hc], by simpa [hc] using hz⟩

theorem TyOk.under (h : TyOk P T t) : ∃ d, P.underlying T = some d ∧ (match d, t with
    | .int k, .int k' => k = k'
    | .bool, .bool => True
    | .string, .str => True
    | .slice E, .slice q e => q = 0 ∧ e.pure = true ∧ TyOk P E e
    | .array m E, .arr m' e => m = m' ∧ TyOk P E e
    | .struct fs, t => ∃ n, fldsOkB P n fs.toList t 0 = true
    | .pointer _, .nilp m => m = false
    | .map _ _, .nilp m => m = true
    | .func _ _ _, .any | .interface _, .any => True
    | _, _ => False) := by
  obtain ⟨n, h⟩ := h
  cases n with
  | zero => simp [tyOkB] at h
  | succ n =>
    unfold tyOkB at h
    cases hi : P.info? T with
    | none => simp [hi] at h
    | some i =>
      simp only [hi, Bool.and_eq_true] at h
      obtain ⟨_, h⟩ := h
      cases hu : P.underlying T with
      | none => simp [hu] at h
      | some d =>
        refine ⟨d, rfl, ?_⟩
        simp only [hu] at h
        cases d <;> cases t <;> simp_all <;> first | exact kindBeq_eq h | exact ⟨n, h⟩ | exact ⟨n, h.2⟩ | exact ⟨_, h⟩ | trivial

theorem no_flds {n : Nat} {fs : List Field} {t : Ty} {off : Nat} (ha : t.isAgg = false) : fldsOkB P n fs t off = false := by
  cases n <;> cases fs <;> cases t <;> simp_all [fldsOkB, Ty.isAgg]

theorem TyOk.under_int {kd : IntKind} (h : TyOk P T (.int kd)) : P.underlying T = some (.int kd) := by
  obtain ⟨d, hd, hm⟩ := h.under
  cases d <;> simp only at hm
  · subst hm; exact hd
  · obtain ⟨n, hn⟩ := hm; rw [no_flds rfl] at hn; cases hn
theorem TyOk.under_bool (h : TyOk P T .bool) : P.underlying T = some .bool := by
  obtain ⟨d, hd, hm⟩ := h.under
  cases d <;> simp only at hm
  · exact hd
  · obtain ⟨n, hn⟩ := hm; rw [no_flds rfl] at hn; cases hn
theorem TyOk.under_str (h : TyOk P T .str) : P.underlying T = some .string := by
  obtain ⟨d, hd, hm⟩ := h.under
  cases d <;> simp only at hm
  · exact hd
  · obtain ⟨n, hn⟩ := hm; rw [no_flds rfl] at hn; cases hn
theorem TyOk.under_slice {q : Nat} {e : Ty} (h : TyOk P T (.slice q e)) : ∃ E, P.underlying T = some (.slice E) ∧ q = 0 ∧ e.pure = true ∧ TyOk P E e := by
  obtain ⟨d, hd, hm⟩ := h.under
  cases d <;> simp only at hm
  · exact ⟨_, hd, hm⟩
  · obtain ⟨n, hn⟩ := hm; rw [no_flds rfl] at hn; cases hn
theorem TyOk.under_arr {m : Nat} {e : Ty} (h : TyOk P T (.arr m e)) : ∃ E, P.underlying T = some (.array m E) ∧ TyOk P E e := by
  obtain ⟨d, hd, hm⟩ := h.under
  cases d <;> simp only at hm
  · obtain ⟨rfl, h2⟩ := hm; exact ⟨_, hd, h2⟩
  · obtain ⟨n, hn⟩ := hm; cases n <;> simp [fldsOkB] at hn
theorem TyOk.under_struct (h : TyOk P T t) (ht : t = .nil ∨ ∃ a b, t = .cons a b) : ∃ fs n, P.underlying T = some (.struct fs) ∧ fldsOkB P n fs.toList t 0 = true := by
  obtain ⟨d, hd, hm⟩ := h.under
  rcases ht with rfl | ⟨a, b, rfl⟩ <;> cases d <;> simp only at hm <;> (obtain ⟨n, hn⟩ := hm; exact ⟨_, n, hd, hn⟩)

theorem TyOk.run_sizeOf (h : TyOk P T t) (w : World) : (sizeOf T).run P w = .ok t.size w := by
  obtain ⟨i, z, hi, hs, _⟩ := h.info
  simp [sizeOf, typeInfo, hi, hs]

theorem TyOk.run_zero (h : TyOk P T t) (w : World) : ∃ z, (zeroValue T).run P w = .ok z w ∧ z = valOf t z.cells.toList ∧ zeroOk t z.cells.toList = true := by
  obtain ⟨i, z, hi, hs, hz, h1, h2⟩ := h.info
  exact ⟨z, by simp [zeroValue, typeInfo, hi, hz], h1, h2⟩

theorem TyOk.run_isAgg (h : TyOk P T t) (w : World) : (isAgg T).run P w = .ok t.isAgg w := by
  obtain ⟨d, hd, hm⟩ := h.under
  have hr := run_underlying (P := P) (w := w) hd
  cases d <;> cases t <;> simp_all [isAgg, Ty.isAgg] <;> (obtain ⟨n, hn⟩ := hm; cases n <;> simp [fldsOkB] at hn)

end
end Go.Lift
