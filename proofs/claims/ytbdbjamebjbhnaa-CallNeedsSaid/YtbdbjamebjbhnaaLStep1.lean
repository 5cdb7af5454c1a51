import Derived.Test.YtbdbjamebjbhnaaLTy
set_option linter.all false
/- EACH OPERATION DOES WHAT THE ABSTRACT ONE SAYS: groundwork. -/
namespace Go.Lift

section
variable {P : Program}

theorem wp_value {o : Oper} {a : Act} {w w' : World} {v : Value} {K : Act → World → Prop} {Q : Exit → Act → World → Prop}
    (hr : (execOp a.eval o).run P w = .ok (.value v) w') (hK : K (a.put o.dst v) w') : o.wp P a w K Q := by
  unfold Oper.wp Oper.upon
  rw [hr]
  exact hK

/-- Nobody else may touch it, or nobody any more. -/
def LabTo (l l' : Lab) : Prop := l' = l ∨ (l' = .imm ∧ ∃ t, l = .atl t)
theorem LabTo.trans {l l' l'' : Lab} (h : LabTo l l') (h' : LabTo l' l'') : LabTo l l'' := by
  rcases h with rfl | ⟨rfl, h⟩
  · exact h'
  · rcases h' with rfl | ⟨_, _, h'⟩
    · exact .inr ⟨rfl, h⟩
    · cases h'
theorem LabTo.atl {l l' : Lab} (h : LabTo l l') {t : Nat} (e : l' = .atl t) : l = .atl t := by
  rcases h with rfl | ⟨rfl, _⟩
  · exact e
  · cases e
theorem LabTo.alien {l l' : Lab} (h : LabTo l l') (e : l = .alien) : l' = .alien := by
  rcases h with rfl | ⟨_, t, h⟩
  · exact e
  · rw [e] at h; cases h

/-- What a quiet operation leaves alone. -/
structure QuietTo (o : Oper) (s : St) (M : Mem) (s' : St) (M' : Mem) : Prop where
  slots : ∀ j, o.dst ≠ some j → lk s'.env j = lk s.env j
  le : M.le M'
  args : s'.args = s.args
  blocks : ∀ b, b < M.w.heap.size → M'.w.heap[b]? = M.w.heap[b]? ∧ LabTo (M.own b) (M'.own b)

/-- What comes behind an operation. -/
def Goes (N : Nat) (w0 : Entry) (quiet : Bool) (o : Oper) (s : St) (M : Mem) {R : Type} (k : St → Option R) (r : R) (K : Act → World → Prop) : Prop :=
  ∀ s' M' a', k s' = some r → Inv N w0 M' s' a' → (quiet = true → QuietTo o s M s' M') → K a' M'.w

/-- An operation that reads at most the blocks B gives a value, and K holds behind it. -/
def StillWp (P : Program) (o : Oper) (a : Act) (w : World) (K : Act → World → Prop) : Prop :=
  ∃ (v : Value) (B : Nat → Prop), (∀ b, B b → isLoad o.op = true ∧ b < w.heap.size) ∧
    (∀ W : World, (∀ b, B b → W.heap[b]? = w.heap[b]?) → (execOp a.eval o).run P W = .ok (.value v) W) ∧ K (a.put o.dst v) w

variable {N : Nat} {w0 : Entry} {M : Mem} {s : St} {a : Act} {quiet : Bool} {o : Oper} {R' : Type} {k : St → Option R'} {r : R'}
  {K : Act → World → Prop} {Q : Exit → Act → World → Prop}

theorem StillWp.wp {w : World} (h : StillWp P o a w K) : o.wp P a w K Q := by
  obtain ⟨v, B, _, h2, h3⟩ := h
  exact wp_value (h2 w fun _ _ => rfl) h3

theorem still_value {w : World} {v : Value} (hr : ∀ W, (execOp a.eval o).run P W = .ok (.value v) W) (hK : K (a.put o.dst v) w) : StillWp P o a w K :=
  ⟨v, fun _ => False, fun _ h => h.elim, fun W _ => hr W, hK⟩

theorem Inv.put (hI : Inv N w0 M s a) {d : Option Nat} (hd : ∀ j, d = some j → j < N) {av : AV} {v : Value} (hR : R M av v) : Inv N w0 M (s.put d av) (a.put d v) := by
  cases d with
  | none => exact hI
  | some d =>
    refine ⟨⟨fun k => ?_, hI.holds.args, hI.holds.objs, hI.holds.nx⟩, hI.frame, hI.defers, by simpa [Act.put] using hI.size⟩
    rw [tmv_put (by rw [hI.size]; exact hd d rfl)]
    simp only [St.put, lk_cons]
    split
    · exact hR
    · exact hI.holds.slots k

theorem lk_put_ne {s : St} {d : Option Tmp} {av : AV} {j : Nat} (h : d ≠ some j) : lk (s.put d av).env j = lk s.env j := by
  cases d with
  | none => rfl
  | some d => simp only [St.put]; rw [lk_cons, if_neg (fun e => h (by rw [e]))]

theorem QuietTo.put {av : AV} : QuietTo o s M (s.put o.dst av) M :=
  ⟨fun _ hj => lk_put_ne hj, Mem.le.refl M, by cases o.dst <;> rfl, fun _ _ => ⟨rfl, .inl rfl⟩⟩

/-- A value is put into a slot; the world stays. -/
theorem put_done (hI : Inv N w0 M s a) (hd : ∀ d, o.dst = some d → d < N) (hg : Goes N w0 quiet o s M k r K) {av : AV} {v : Value}
    (hR : R M av v) (hk : k (s.put o.dst av) = some r) : K (a.put o.dst v) M.w :=
  hg _ M _ hk (hI.put hd hR) fun _ => QuietTo.put

theorem put_int (hI : Inv N w0 M s a) (hd : ∀ d, o.dst = some d → d < N) (hg : Goes N w0 quiet o s M k r K) {kd : IntKind} {n : Int}
    (hk : k (s.put o.dst (.d (.int kd) n)) = some r) : K (a.put o.dst (.int kd n)) M.w :=
  put_done hI hd hg (by simp only [R]; exact ⟨[_], rfl, rfl⟩) hk
theorem put_bool (hI : Inv N w0 M s a) (hd : ∀ d, o.dst = some d → d < N) (hg : Goes N w0 quiet o s M k r K) {b : Bool}
    (hk : k (s.put o.dst (.d .bool b)) = some r) : K (a.put o.dst (.bool b)) M.w :=
  put_done hI hd hg (by simp only [R]; exact ⟨[_], rfl, rfl⟩) hk
theorem put_str (hI : Inv N w0 M s a) (hd : ∀ d, o.dst = some d → d < N) (hg : Goes N w0 quiet o s M k r K) {l : List UInt8}
    (hk : k (s.put o.dst (.d .str l)) = some r) : K (a.put o.dst (.string ⟨l.toArray⟩)) M.w :=
  put_done hI hd hg (by simp only [R]; exact ⟨[_], rfl, rfl⟩) hk

/-! ### Integers, truth values, strings -/

def Dat.val : Dat → Value
  | ⟨.int k, n⟩ => .int k n
  | ⟨.bool, b⟩ => .bool b
  | ⟨.str, l⟩ => .string ⟨l.toArray⟩
  | _ => undef

def Dat.simple : Dat → Prop
  | ⟨.int _, _⟩ | ⟨.bool, _⟩ | ⟨.str, _⟩ => True
  | _ => False

theorem Dat.simple_ok {z : Dat} (h : z.simple) : z.t.pure = true ∧ z.t.scalar = true ∧ ∃ cs, z.val = valOf z.t cs ∧ ∀ M, rep M z.t cs z.x := by
  obtain ⟨t, x⟩ := z
  cases t <;> simp only [Dat.simple] at h <;> exact ⟨rfl, rfl, [_], rfl, fun _ => rfl⟩

theorem put_simple (hI : Inv N w0 M s a) (hd : ∀ d, o.dst = some d → d < N) (hg : Goes N w0 quiet o s M k r K) {z : Dat} (hz : z.simple)
    (hk : k (s.put o.dst z.av) = some r) : K (a.put o.dst z.val) M.w := by
  obtain ⟨_, _, cs, h2, h3⟩ := z.simple_ok hz
  exact put_done hI hd hg (by simp only [Dat.av, R]; exact ⟨cs, h2, h3 _⟩) hk

theorem run_binInt {op : BinOp} {kd : IntKind} {x y : Int} {g : Bool} {z : Dat} {T : TypeId} (hs : isShift op = false) (h : binInt op kd x y = some (g, z)) (hg : g = true) (w : World) :
    (binOp op T (.int kd x) (.int kd y)).run P w = .ok z.val w ∧ z.simple := by
  cases op <;> simp only [binInt, Option.some.injEq, Prod.mk.injEq] at h <;> try (cases h; done)
  all_goals (obtain ⟨h1, rfl⟩ := h; subst hg)
  case quo =>
    have hy : y ≠ 0 := by simpa using h1
    simp [binOp, Op.intDiv, hy, Dat.val, Dat.simple]
  case rem =>
    have hy : y ≠ 0 := by simpa using h1
    simp [binOp, Op.intDiv, hy, Dat.val, Dat.simple]
  all_goals simp [binOp, Op.intArith, Op.intBits, Op.intCmp, Dat.val, Dat.simple]

theorem run_shInt {op : BinOp} {kd kd' : IntKind} {x y : Int} {g : Bool} {z : Dat} {T : TypeId} (h : shInt op kd x y = some (g, z)) (hg : g = true) (w : World) :
    (binOp op T (.int kd x) (.int kd' y)).run P w = .ok z.val w ∧ z.simple := by
  cases op <;> simp only [shInt, Option.some.injEq, Prod.mk.injEq] at h <;> try (cases h; done)
  all_goals
    obtain ⟨h1, rfl⟩ := h
    subst hg
    have hy : ¬ y < 0 := by have : 0 ≤ y := by simpa using h1
                            omega
    simp [binOp, Op.shift, hy, Dat.val, Dat.simple]

theorem run_binStr {op : BinOp} {x y : List UInt8} {z : Dat} {T : TypeId} (h : binStr op x y = some z) (hl : op = .add → x.length + y.length ≤ 9223372036854775807) (w : World) :
    (binOp op T (.string ⟨x.toArray⟩) (.string ⟨y.toArray⟩)).run P w = .ok z.val w ∧ z.simple := by
  have hm : ((⟨x.toArray⟩ : ByteArray).size + (⟨y.toArray⟩ : ByteArray).size : Nat) = x.length + y.length := by simp [ByteArray.size]
  cases op <;> simp only [binStr, Option.some.injEq] at h <;> try (cases h; done)
  all_goals subst h
  case add =>
    have hl := hl rfl
    have : ¬ (((⟨x.toArray⟩ : ByteArray).size + (⟨y.toArray⟩ : ByteArray).size : Nat) : Int) > IntKind.i64.max := by
      rw [hm]
      have : IntKind.i64.max = 9223372036854775807 := rfl
      omega
    refine ⟨?_, trivial⟩
    have e : (⟨x.toArray⟩ : ByteArray) ++ ⟨y.toArray⟩ = ⟨(x ++ y).toArray⟩ := by
      apply ByteArray.ext
      simp
    simp only [binOp, Op.stringOp, if_neg this, e, Dat.val]
    simp
  all_goals simp [binOp, Op.stringOp, ByteArray.toList_mk, Dat.val, Dat.simple]

/-! ### Equality of structs of plain fields -/

/-- Of fields that are no structs. -/
def plainB : Ty → Bool
  | .cons a b => !a.isAgg && plainB b
  | .nil => true
  | _ => false

structure EqFact (P : Program) (T : TypeId) : Prop where
  held : P.stoodInHeld T = false
  guard : P.eqGuardType P.depth T = false
  names : ((P.fieldsOf T).toList.all fun f => f.name != "_") = true

theorem basic_eq {P : Program} {d : Nat} {T : TypeId} {t : Ty} {x y : t.den} {q : Bool} {v u : Value} {M M' : Mem} (hT : TyOk P T t) (ha : t.isAgg = false)
    (hx : rep M t [v] x) (hy : rep M' t [u] y) (hq : eqD t x y = some q) (W : World) : (Op.equalIn (d + 1) T v u).run P W = .ok q W := by
  cases t <;> simp only [eqD] at hq <;> try (cases hq; done)
  all_goals simp only [rep] at hx hy
  case int k => cases hx; cases hy; cases hq; rw [run_equalIn_int _ _ _ _ _ _ _ hT.under_int]
  case bool => cases hx; cases hy; cases hq; rw [run_equalIn_bool' _ _ _ _ _ hT.under_bool]
  case str =>
    cases hx; cases hy; cases hq
    rw [run_equalIn_string _ _ _ _ _ hT.under_str]
    simp [ByteArray.toList_mk]
  case nil => simp [Ty.isAgg] at ha
  case cons => simp [Ty.isAgg] at ha

theorem run_part {P : Program} {T : TypeId} {t : Ty} (hT : TyOk P T t) (xs : List Value) (off : Nat) (h : off + t.size ≤ xs.length) (w : World) :
    (part T xs.toArray off).run P w = .ok (valOf t ((xs.drop off).take t.size)) w := by
  simp only [part, Sem.run_bind, hT.run_isAgg, Result.andThen_ok]
  by_cases ha : t.isAgg = true
  · simp only [ha, if_true, Sem.run_bind, hT.run_sizeOf, Result.andThen_ok, Sem.run_pure, valOf]
    congr 2
    simp
  · have ha' : t.isAgg = false := by simpa using ha
    have h1 : t.size = 1 := by cases t <;> simp_all [Ty.isAgg, Ty.size]
    rw [h1] at h ⊢
    have hx : xs[off]? = some xs[off] := List.getElem?_eq_getElem (by omega)
    have hd : xs.drop off = xs[off] :: xs.drop (off + 1) := List.drop_eq_getElem_cons (by omega)
    have hv : valOf t (List.take 1 (xs.drop off)) = xs[off] := by rw [hd, List.take_succ_cons]; simp only [valOf, ha', Bool.false_eq_true, if_false, List.headD_cons]
    rw [hv]
    simp [ha', hx]

theorem eqFields_ok {P : Program} {d : Nat} {M M' : Mem} {xs ys : List Value} (W : World) : ∀ (fs : List Field) (t : Ty) (n off : Nat) (x y : t.den) (q : Bool),
    fldsOkB P n fs t off = true → (fs.all fun f => f.name != "_") = true → plainB t = true →
    rep M t (xs.drop off) x → rep M' t (ys.drop off) y → eqD t x y = some q →
    (Op.eqFields (d + 1) xs.toArray ys.toArray fs).run P W = .ok q W
  | [], t, n, off, x, y, q, hf, _, _, _, _, hq => by
    cases n with
    | zero => simp [fldsOkB] at hf
    | succ n =>
      cases t <;> simp [fldsOkB] at hf
      simp only [eqD, Option.some.injEq] at hq
      subst hq
      simp [Op.eqFields]
  | f :: fs, t, n, off, x, y, q, hf, hn, hp, hx, hy, hq => by
    cases n with
    | zero => simp [fldsOkB] at hf
    | succ n =>
      cases t <;> simp [fldsOkB] at hf
      rename_i a b
      obtain ⟨⟨h1, h2⟩, h3⟩ := hf
      simp only [List.all_cons, Bool.and_eq_true, bne_iff_ne, ne_eq] at hn
      simp only [plainB, Bool.and_eq_true, Bool.not_eq_true'] at hp
      simp only [rep] at hx hy
      obtain ⟨c1, c2, e1, x1, x2⟩ := hx
      obtain ⟨d1, d2, e2, y1, y2⟩ := hy
      have hTa : TyOk P f.type a := ⟨n, h2⟩
      have sa : a.size = 1 := by have := hp.1; cases a <;> simp_all [Ty.isAgg, Ty.size]
      have l1 := rep_length x1
      have l2 := rep_length y1
      have t1 : (xs.drop off).take a.size = c1 := by rw [e1, ← l1]; simp
      have t2 : (ys.drop off).take a.size = d1 := by rw [e2, ← l2]; simp
      have r1 : xs.drop (off + a.size) = c2 := by rw [← List.drop_drop, e1, ← l1]; simp
      have r2 : ys.drop (off + a.size) = d2 := by rw [← List.drop_drop, e2, ← l2]; simp
      have b1 : off + a.size ≤ xs.length := by have := congrArg List.length e1; simp at this; omega
      have b2 : off + a.size ≤ ys.length := by have := congrArg List.length e2; simp at this; omega
      cases hqa : eqD a x.1 y.1 with
      | none => simp [eqD, hqa] at hq
      | some qa =>
        cases hqb : eqD b x.2 y.2 with
        | none => simp [eqD, hqa, hqb] at hq
        | some qb =>
          simp only [eqD, hqa, hqb, Option.some.injEq] at hq
          subst hq
          have va : ∃ v, c1 = [v] := List.length_eq_one_iff.1 (by omega)
          have ua : ∃ v, d1 = [v] := List.length_eq_one_iff.1 (by omega)
          obtain ⟨v, rfl⟩ := va
          obtain ⟨u, rfl⟩ := ua
          have hb := basic_eq (P := P) (d := d) hTa hp.1 x1 y1 hqa W
          have ih := eqFields_ok (d := d) W fs b n (off + a.size) x.2 y.2 qb h3 hn.2 hp.2 (by rw [r1]; exact x2) (by rw [r2]; exact y2) hqb
          simp only [Op.eqFields, h1, ne_eq, hn.1, not_false_eq_true, if_true, Sem.run_bind, run_part hTa _ _ b1, run_part hTa _ _ b2, t1, t2, Result.andThen_ok]
          simp only [valOf, hp.1, List.headD_cons, Bool.false_eq_true, if_false, hb, Result.andThen_ok]
          cases qa
          · simp
          · simpa using ih


/-! ### What operands hold -/

theorem R_const (v : Value) : R M (constAV v) v := by
  unfold constAV
  split
  · simp only [R]; exact ⟨[_], rfl, rfl⟩
  · simp only [R]; exact ⟨[_], rfl, rfl⟩
  · simp only [R]; exact ⟨[_], rfl, rfl⟩
  · simp [R]
  · simp only [R]; exact ⟨[_], rfl, rfl⟩
  · simp only [R]; exact ⟨[_], rfl, rfl⟩
  · simp [R]

theorem R_ev (hI : Inv N w0 M s a) (x : Operand) : R M (ev s x) (a.eval x) := by
  cases x with
  | tmp t => exact hI.holds.slots t
  | const v => exact R_const v
  | global g => simp [ev, R]
  | func f => simp only [ev, R]; exact ⟨[_], rfl, #[], rfl, rfl⟩

theorem int_val (hI : Inv N w0 M s a) {x : Operand} {kd : IntKind} {n : Int} (h : ev s x = .d (.int kd) n) : a.eval x = .int kd n := by
  have := R_ev hI x
  rw [h] at this
  simp only [R] at this
  obtain ⟨cs, h1, h2⟩ := this
  rw [show cs = _ from h2] at h1
  exact h1
theorem bool_val (hI : Inv N w0 M s a) {x : Operand} {n : Bool} (h : ev s x = .d .bool n) : a.eval x = .bool n := by
  have := R_ev hI x
  rw [h] at this
  simp only [R] at this
  obtain ⟨cs, h1, h2⟩ := this
  rw [show cs = _ from h2] at h1
  exact h1
theorem str_val (hI : Inv N w0 M s a) {x : Operand} {n : List UInt8} (h : ev s x = .d .str n) : a.eval x = .string ⟨n.toArray⟩ := by
  have := R_ev hI x
  rw [h] at this
  simp only [R] at this
  obtain ⟨cs, h1, h2⟩ := this
  rw [show cs = _ from h2] at h1
  exact h1
theorem bool_ok (hI : Inv N w0 M s a) {x : Operand} {b : Bool} (h : (ev s x).bool? = some b) : a.eval x = .bool b := by
  refine bool_val hI ?_
  cases hav : ev s x <;> simp only [hav, AV.bool?] at h <;> try (cases h; done)
  split at h <;> simp_all
theorem nilS_val (hI : Inv N w0 M s a) {x : Operand} (h : ev s x = .nilS) : a.eval x = .slice none 0 0 := by
  have := R_ev hI x
  rw [h] at this
  simpa only [R] using this

theorem exec_builtin {b : Builtin} {args : Array Operand} {Ts : Array TypeId} (ho : o.op = .call { callee := .builtin b, args := args, argTypes := Ts }) :
    execOp a.eval o = builtin b Ts o.type (args.map fun | .const _ => true | _ => false) (args.map a.eval) := by
  simp only [execOp, ho, resolve, invoke]
  rfl

end
end Go.Lift
