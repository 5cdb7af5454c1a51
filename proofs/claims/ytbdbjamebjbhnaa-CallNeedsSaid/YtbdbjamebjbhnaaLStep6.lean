import Derived.Test.YtbdbjamebjbhnaaLStep5
set_option linter.all false
/- STEPS: stores. -/
namespace Go.Lift

theorem spl_spl (L : List Value) (a b : Nat) (n : Nat) (cs : List Value) (h1 : a + n ≤ L.length) (h2 : b + cs.length ≤ n) : spl L a (spl ((L.drop a).take n) b cs) = spl L (a + b) cs := by
  have hl : ((L.drop a).take n).length = n := by simp; omega
  apply List.ext_getElem?
  intro i
  have hs : (spl ((L.drop a).take n) b cs).length = n := by rw [length_spl _ _ _ (by omega), hl]
  simp only [spl] at hs ⊢
  simp only [List.getElem?_append, List.length_append, List.length_take, List.length_drop, List.getElem?_take, List.getElem?_drop]
  repeat' split
  all_goals first
    | rfl
    | omega
    | (congr 1; omega)
    | skip


theorem spl_full (L cs : List Value) (h : cs.length = L.length) : spl L 0 cs = cs := by
  simp [spl, h]

theorem repAll_set_cells {n : Nat} {c : List Value} : ∀ {css : List (List Value)} (i : Nat), (∀ c ∈ css, c.length = n) → c.length = n → i < css.length →
    (css.set i c).flatten = spl css.flatten (i * n) c
  | [], i, _, _, h => by simp at h
  | d :: css, 0, hl, hc, _ => by
    have := hl d (by simp)
    simp only [List.set_cons_zero, List.flatten_cons, spl, Nat.zero_mul, List.take_zero, List.nil_append, Nat.zero_add]
    rw [List.drop_append, List.drop_eq_nil_of_le (by omega)]
    simp [hc, this]
  | d :: css, i + 1, hl, hc, h => by
    have hd := hl d (by simp)
    have ih := repAll_set_cells (css := css) i (fun x hx => hl x (by simp [hx])) hc (by simpa using h)
    simp only [List.set_cons_succ, List.flatten_cons, ih, spl]
    rw [show (i + 1) * n = d.length + i * n by rw [hd, Nat.add_mul]; omega]
    rw [List.take_append, List.take_of_length_le (l := d) (by omega), Nat.add_assoc, List.drop_append, List.drop_eq_nil_of_le (as := d) (by omega)]
    simp [Nat.add_sub_cancel_left]


section
variable {P : Program} {C : Ctx} {N : Nat} {w0 : Entry} {M : Mem} {s : St} {a : Act} {quiet : Bool} {o : Oper} {R' : Type} {k : St → Option R'} {r : R'}
  {K : Act → World → Prop} {Q : Exit → Act → World → Prop} {w : World}

/-- A part of a datum is replaced by one of its shape. -/
theorem rep_set : ∀ (p : List Stp) {o y o' z : Dat} {cs cy : List Value}, rep M o.t cs o.x → o.get p = some z → o.set p y = some o' → o.t.pathOk p → z.t.shape = y.t.shape → rep M y.t cy y.x →
    rep M o'.t (spl cs (o.t.off p) cy) o'.x ∧ o'.t.shape = o.t.shape
  | [], o, y, o', z, cs, cy, hr, hz, h, _, hsh, hy => by
    simp only [Dat.set, Option.some.injEq] at h
    simp only [Dat.get, Option.some.injEq] at hz
    subst h hz
    simp only [Ty.off]
    rw [spl_full _ _ (by rw [rep_length hr, rep_length hy, size_of_shape hsh])]
    exact ⟨hy, hsh.symm⟩
  | .fld k :: p, o, y, o', z, cs, cy, hr, hz, h, hok, hsh, hy => by
    simp only [Dat.get] at hz
    simp only [Dat.set] at h
    cases hf : fldD o.t o.x k with
    | none => simp [hf] at hz
    | some f =>
      simp only [hf] at hz h
      cases hs : f.set p y with
      | none => simp [hs] at h
      | some f' =>
        simp only [hs] at h
        have ht := fldD_t hf
        simp only [Ty.pathOk, ht] at hok
        have hrf := rep_fld hr hf
        obtain ⟨h1, h2⟩ := rep_set p hrf hz hs hok hsh hy
        have h3 := rep_setFld hr ht h2 h1 h
        have hle := off_le p hok (get_sub p hz)
        have hfo := fldOff_le ht
        have hl := rep_length hr
        have hly := rep_length hy
        simp only [Ty.off, ht]
        rw [spl_spl _ _ _ _ _ (by omega) (by rw [hly, ← size_of_shape hsh]; exact hle)] at h3
        exact ⟨h3, setFld_shape ht h2 h⟩
  | .idx i :: p, ⟨t, x⟩, y, o', z, cs, cy, hr, hz, h, hok, hsh, hy => by
    simp only [Dat.get] at hz
    simp only [Dat.set] at h
    cases hf : elemD t x i with
    | none => simp [hf] at hz
    | some f =>
      simp only [hf] at hz h
      cases hs : f.set p y with
      | none => simp [hs] at h
      | some f' =>
        simp only [hs] at h
        cases t <;> simp only [elemD] at hf <;> try (cases hf; done)
        rename_i n e
        simp only [Option.some.injEq] at hf
        subst hf
        simp only [Ty.pathOk] at hok
        simp only [setElem] at h
        split at h
        · rename_i hb
          cases h
          have et := Ty.beq_eq hb
          simp only [rep] at hr
          obtain ⟨he, hn, css, rfl, hc⟩ := hr
          have hi : i < List.length x := by have h2 : List.length x = n := hn; omega
          have hel := elem_drop i e.zero hc hi
          obtain ⟨h1, h2⟩ := rep_set p (o := ⟨e, List.getD x i e.zero⟩) hel hz hs hok.2 hsh hy
          obtain ⟨ft, fx⟩ := f'
          simp only at et
          subst et
          have hlen := repAll_len hc
          have hcy := rep_length h1
          have hcl : i < css.length := by rw [repAll_length hc]; exact hi
          have hset := repAll_set_cells i hlen hcy hcl
          have hfl := flatten_length hc
          have hrow : i * ft.size + ft.size ≤ List.length x * ft.size := by
            have : (i + 1) * ft.size ≤ List.length x * ft.size := Nat.mul_le_mul_right _ hi
            rw [Nat.add_mul, Nat.one_mul] at this
            exact this
          have hle := off_le p hok.2 (get_sub p (o := ⟨ft, List.getD x i ft.zero⟩) hz)
          have hly := rep_length hy
          rw [spl_spl _ _ _ _ _ (by rw [hfl]; exact hrow) (by rw [hly, ← size_of_shape hsh]; exact hle)] at hset
          simp only [Ty.off]
          exact ⟨⟨he, by simpa using hn, _, hset.symm, repAll_set h1 i hc⟩, by trivial⟩
        · cases h

theorem as_eq {d : Dat} {t : Ty} {x : t.den} (h : d.as t = some x) : d = ⟨t, x⟩ := by
  obtain ⟨u, y⟩ := d
  unfold Dat.as at h
  split at h
  · rename_i hb
    have e := Ty.beq_eq hb
    simp only at e
    subst e
    cases h
    rfl
  · cases h

theorem run_storeAt {T E : TypeId} {t : Ty} (hT : TyOk P T t) {b off : Nat} {cur : Array Value} {v : Value} {cs : List Value} (hb : w.heap[b]? = some (.cells cur E (0, 0))) (hv : v.cells = cs.toArray) (hl : cs.length = t.size)
    (hfit : off + cs.length ≤ cur.size) (h1 : ∀ u ∈ cs, u.oneCell' = true) :
    (Instr.storeAt T (.pointer (some ⟨b, off, none⟩)) v).run P w = .ok () (w.setRow b (spl cur.toList off cs).toArray) := by
  have hst := run_storeCells_at P b off E cs 0 cur w hb (by simpa using hfit) h1
  have hsz : ¬ cs.length ≠ t.size := by omega
  simp only [Instr.storeAt, Instr.sureAddr, Sem.run_bind, Sem.run_pure, Result.andThen_ok, storeVar, hT.run_sizeOf, hv, List.size_toArray]
  simp only [if_neg hsz]
  simpa [spl] using hst

theorem wp_skip' {w' : World} (hr : (execOp a.eval o).run P w = .ok .skip w') (hd : o.dst = none) (hK : K a w') : o.wp P a w K Q := by
  unfold Oper.wp Oper.upon
  rw [hr]
  simpa [hd, Act.put] using hK


/-- The world of a memory turns in one block, which belongs to object i. -/
theorem row_turn {b i : Nat} {cur : Array Value} {E : TypeId} {cur' : Array Value} (hh : M.w.heap[b]? = some (.cells cur E (0, 0))) (ho : M.own b = .atl i) : Turn M { M with w := M.w.setRow b cur' } (· = i) := by
  have hother : ∀ b', b' ≠ b → (M.w.setRow b cur').heap[b']? = M.w.heap[b']? := fun b' h => setRow_other M.w b b' _ h
  have hsz : M.w.heap.size ≤ (M.w.setRow b cur').heap.size := by simp [World.setRow]
  refine ⟨⟨Nat.le_refl _, fun _ _ => rfl, fun b' _ h => ⟨h, hother b' (fun e => by subst e; rw [ho] at h; cases h)⟩⟩, ⟨rfl, rfl, rfl, hsz, fun b' _ h => ⟨hother b' (fun e => by subst e; rw [ho] at h; rcases h with h | h <;> cases h), rfl⟩⟩,
    fun b' _ id h hx => ⟨h, hother b' (fun e => by subst e; rw [ho] at h; cases h; exact hx rfl)⟩⟩

theorem setO_lk (s : St) (i : Nat) (ob : Ob) (id : Nat) : lkO (s.setO i ob).σ id = if id = i then ob else lkO s.σ id := lkO_cons _ _ _ _

/-- An object is written to. -/
theorem write_inv (hI : Inv N w0 M s a) {b i : Nat} {cur cur' : Array Value} {E : TypeId} {ob : Ob} (hh : M.w.heap[b]? = some (.cells cur E (0, 0))) (ho : M.own b = .atl i) (hi : i < M.nx) (hob : OR { M with w := M.w.setRow b cur' } i ob) :
    Inv N w0 { M with w := M.w.setRow b cur' } (s.setO i ob) a := by
  have := hI.to (row_turn (cur' := cur') hh ho) (σ' := (i, ob) :: s.σ) (nx' := s.nx) hI.holds.nx (fun id => by
    rw [lkO_cons]
    by_cases h : id = i
    · rw [if_pos h]; subst h; exact .inr ⟨.inr (by have := hI.holds.nx; omega), hob⟩
    · rw [if_neg h]; exact .inl ⟨rfl, h⟩)
  exact this

/-- A store, of a value of the shape wanted. -/
def Tgt.oid : Tgt → Nat
  | .obj i _ _ => i
  | .elem i _ _ _ => i
  | .imm _ _ => 0

/-- What comes behind a store: the object i alone was touched. -/
def GoesS (N : Nat) (w0 : Entry) (i : Nat) (M : Mem) {R : Type} (k : St → Option R) (r : R) (K : Act → World → Prop) : Prop :=
  ∀ s' M' a', k s' = some r → Inv N w0 M' s' a' → (∀ b, M.own b ≠ .atl i → M'.w.heap[b]? = M.w.heap[b]? ∧ M'.own b = M.own b) → K a' M'.w

theorem store_main (hC : CtxOk0 P C) (hI : Inv N w0 M s a) {T : TypeId} {x y : Operand} (ho : o.op = .store T x y) (hdst : o.dst = none) {t : Ty} (hT : C.ty T = some t)
    {g : Tgt} (hg : GoesS N w0 g.oid M k r K) {z : Dat} {cs : List Value} {p : Nat × Ob} (hR : R M g.toAV (a.eval x)) (hsh : z.t.shape = t.shape) (hev : a.eval y = valOf z.t cs) (hrep : rep M z.t cs z.x) (hset : tgtSet s.σ g z = some p) (hk : k (s.setO p.1 p.2) = some r) : o.wp P a M.w K Q := by
  have hTy := hC.ty _ _ hT
  have hcl : cs.length = t.size := (rep_length hrep).trans (size_of_shape hsh)
  have hvc := valOf_size hrep
  have h1c := rep_oneCell hrep
  cases g with
  | imm u v => simp [tgtSet] at hset
  | obj i t0 q =>
    simp only [Tgt.toAV, R] at hR
    obtain ⟨h1, h2, b, h3, h4⟩ := hR
    have ho' := (hI.holds.objs i).2
    simp only [tgtSet] at hset
    cases hl : lkO s.σ i <;> simp only [hl] at hset ho' <;> try (cases hset; done)
    rename_i T' t' x'
    cases hc : t0.shape.beq t'.shape <;> simp only [hc, cond_true, cond_false] at hset
    · cases hset
    obtain ⟨p1, p2⟩ := path_shape q (Ty.beq_eq hc) h2
    cases hget : (Dat.mk t' x').get q with
    | none => simp [hget] at hset
    | some u =>
      cases hst : (Dat.mk t' x').set q z with
      | none => simp [hget, hst] at hset
      | some o' =>
        simp only [hget, hst] at hset
        cases hb : u.t.shape.beq z.t.shape <;> simp only [hb, cond_true, cond_false] at hset
        · cases hset
        simp only [Option.some.injEq] at hset
        subst hset
        obtain ⟨b', cur, f1, f2, f3, f4⟩ := ho'
        rw [h3] at f1
        cases f1
        have hle := off_le q p1 (get_sub q hget)
        have hcur := rep_length f4
        simp only [Array.length_toList] at hcur
        have hus : u.t.size = t.size := (size_of_shape (Ty.beq_eq hb)).trans (size_of_shape hsh)
        have hfit : t'.off q + cs.length ≤ cur.size := by rw [hcl, hcur, ← hus]; exact hle
        have hrun := run_storeAt (P := P) hTy (v := a.eval y) f3 (by rw [hev]; exact hvc) hcl hfit h1c
        obtain ⟨r1, r2⟩ := rep_set q (o := ⟨t', x'⟩) f4 hget hst p1 (Ty.beq_eq hb) hrep
        refine wp_skip' (w' := M.w.setRow b (spl cur.toList (t'.off q) cs).toArray) ?_ hdst ?_
        · rw [← p2] at h4
          simp only [execOp, ho, h4, Sem.run_bind, hrun, Result.andThen_ok, Sem.run_pure]
        · refine hg _ { M with w := M.w.setRow b (spl cur.toList (t'.off q) cs).toArray } _ hk (write_inv hI f3 f2 h1 ?_) (fun b' hb' => ⟨setRow_other _ _ _ _ fun e => hb' (by rw [e]; exact f2), rfl⟩)
          exact ⟨b, _, h3, f2, setRow_heap M.w b cur _ T' _ f3, rep_mono (row_turn f3 f2).le (by simpa using r1)⟩
  | elem i e j q =>
    simp only [Tgt.toAV, R] at hR
    obtain ⟨h1, h2, g, n, cap, h3, h4, h5⟩ := hR
    have ho' := (hI.holds.objs i).2
    simp only [tgtSet] at hset
    cases hl : lkO s.σ i <;> simp only [hl] at hset ho' <;> try (cases hset; done)
    rename_i T' e' l
    cases hc : e.beq e' <;> simp only [hc, cond_true, cond_false] at hset
    · cases hset
    have := Ty.beq_eq hc
    subst this
    cases hget : (Dat.mk e (l.getD j e.zero)).get q with
    | none => simp only [hget] at hset; cases hset
    | some u =>
      cases hst : (Dat.mk e (l.getD j e.zero)).set q z with
      | none => simp only [hget, hst] at hset; cases hset
      | some o' =>
        simp only [hget, hst] at hset
        cases hb : u.t.shape.beq z.t.shape <;> simp only [hb, cond_true, cond_false] at hset
        · cases hset
        cases has : o'.as e with
        | none => simp [has] at hset
        | some x'' =>
          simp only [has, Option.some.injEq] at hset
          subst hset
          have eo := as_eq has
          subst eo
          obtain ⟨he, ad, cap', k1, k2, k3, k4⟩ := ho'
          rw [h3] at k1
          simp only [Value.slice.injEq] at k1
          obtain ⟨rfl, rfl, rfl⟩ := k1
          rcases k4 with ⟨k4, _⟩ | ⟨g', cur, css, f1, f2, f3, f4, f5, f6⟩
          · cases k4
          cases f1
          have hle := off_le q h2 (get_sub q hget)
          have hfl := flatten_length f6
          have hrow : j * e.size + e.size ≤ List.length l * e.size := by
            have : (j + 1) * e.size ≤ List.length l * e.size := Nat.mul_le_mul_right _ h4
            rw [Nat.add_mul, Nat.one_mul] at this
            exact this
          have hcapm : List.length l * e.size ≤ cur.size := by rw [f4]; exact Nat.mul_le_mul_right _ k2
          have hus : u.t.size = t.size := (size_of_shape (Ty.beq_eq hb)).trans (size_of_shape hsh)
          have hfit : (j * e.size + e.off q) + cs.length ≤ cur.size := by rw [hcl, ← hus]; omega
          have hrun := run_storeAt (P := P) hTy (v := a.eval y) f3 (by rw [hev]; exact hvc) hcl hfit h1c
          refine wp_skip' (w' := M.w.setRow g (spl cur.toList (j * e.size + e.off q) cs).toArray) ?_ hdst ?_
          · simp only [execOp, ho, h5, Sem.run_bind, hrun, Result.andThen_ok, Sem.run_pure]
          · refine hg _ { M with w := M.w.setRow g (spl cur.toList (j * e.size + e.off q) cs).toArray } _ hk (write_inv hI f3 f2 h1 ?_) (fun b' hb' => ⟨setRow_other _ _ _ _ fun e => hb' (by rw [e]; exact f2), rfl⟩)
            have hcl2 : j < css.length := by rw [repAll_length f6]; exact h4
            have hel := elem_drop j e.zero f6 h4
            obtain ⟨hrs, _⟩ := rep_set q (o := ⟨e, List.getD l j e.zero⟩) hel hget hst h2 (Ty.beq_eq hb) hrep
            have hlen := repAll_len f6
            have hcy := rep_length hrs
            have hset' := repAll_set_cells j hlen hcy hcl2
            rw [spl_spl _ _ _ _ _ (by rw [hfl]; exact hrow) (by rw [hcl, ← hus]; exact hle)] at hset'
            have htk : (spl cur.toList (j * e.size + e.off q) cs).take (List.length l * e.size) = spl css.flatten (j * e.size + e.off q) cs := by
              rw [← f5]
              apply List.ext_getElem?
              intro jj
              have hcs : cur.toList.length = cur.size := by simp
              have hb1 : j * e.size + e.off q + cs.length ≤ List.length l * e.size := by rw [hcl, ← hus]; omega
              generalize j * e.size + e.off q = A at *
              generalize List.length l * e.size = B at *
              simp only [spl, List.getElem?_take, List.getElem?_drop, List.getElem?_append, List.length_append, List.length_take]
              repeat' split
              all_goals first
                | rfl
                | omega
                | (congr 1; omega)
            refine ⟨he, some ⟨g, 0, none⟩, cap, by rw [List.length_set]; exact h3, by rw [List.length_set]; exact k2, k3, .inr ⟨g, _, css.set j (spl ((css.flatten.drop (j * e.size)).take e.size) (e.off q) cs), rfl, f2, setRow_heap M.w g cur _ T' _ f3, ?_, ?_,
              repAll_mono (fun _ _ => rep_mono (row_turn f3 f2).le) (repAll_set hrs j f6)⟩⟩
            · rw [List.size_toArray, length_spl _ _ _ (by simpa using hfit)]; simpa using f4
            · rw [List.length_set, htk, hset']

theorem Goes.store {s1 : St} {M1 : Mem} {i : Nat} (hq : quiet = false) (h : Goes N w0 quiet o s1 M1 k r K) : GoesS N w0 i M1 k r K :=
  fun s' M' a' h1 h2 _ => h s' M' a' h1 h2 (fun e => by simp [hq] at e)

theorem step_store (hC : CtxOk0 P C) (hq : quiet = false) (hI : Inv N w0 M s a) (hg : Goes N w0 quiet o s M k r K) {T : TypeId} {x y : Operand} (ho : o.op = .store T x y)
    (hs : stepOp C quiet o s k = some r) : o.wp P a M.w K Q := by
  unfold stepOp at hs
  simp only [ho] at hs
  split at hs
  · rename_i i e j q t hx hT hdst
    cases hy : asPure s.σ t (ev s y) with
    | none => simp [hy] at hs
    | some zl =>
      obtain ⟨z, l⟩ := zl
      simp only [hy] at hs
      cases hset : tgtSet s.σ (.elem i e j q) ⟨t, z⟩ with
      | none => simp [hset] at hs
      | some p =>
        simp only [hset] at hs
        have hR := tgt_ok hI.holds.objs hx (R_ev hI x)
        cases hh : Nat.beq (hot s.σ l).length 0 <;> simp only [hh, cond_true, cond_false] at hs
        · cases hm : memN i l <;> simp only [hm, cond_true, cond_false] at hs
          · cases hf : s.frz l with
            | none => simp [hf] at hs
            | some s' =>
              simp only [hf] at hs
              obtain ⟨cs, k1, k2, k3⟩ := asPure_ok hI hy (frz_sees M (hot s.σ l))
              have hI' := frz_inv hI hf
              obtain ⟨_, _, _, _, hsame⟩ := frz_holds hI.holds hf
              have hi : lkO s'.σ i = lkO s.σ i := by
                by_cases h : lkO s'.σ i = lkO s.σ i
                · exact h
                · have := memN_iff.2 (hsame i h); rw [hm] at this; cases this
              have hset' : tgtSet s'.σ (.elem i e j q) ⟨t, z⟩ = some p := by
                simp only [tgtSet, hi] at hset ⊢
                exact hset
              have := store_main (a := a) (Q := Q) hC hI' ho hdst hT ((hg.other (s1 := s) hq).store hq) (g := .elem i e j q) (z := ⟨t, z⟩) (R_mono (frz_turn M _).le _ _ hR) rfl k1 k3 hset' hs
              exact this
          · cases hs
        · have hnil : hot s.σ l = [] := List.eq_nil_of_length_eq_zero (Nat.eq_of_beq_eq_true hh)
          obtain ⟨cs, k1, k2, k3⟩ := asPure_ok hI hy (M' := M) (by rw [hnil]; exact fun b hb h => h.elim (fun h => ⟨h, rfl⟩) (fun ⟨_, h, _⟩ => by simp at h))
          exact store_main hC hI ho hdst hT (hg.store hq) (g := .elem i e j q) (z := ⟨t, z⟩) hR rfl k1 k3 hset hs
  · rename_i g t _ hx hT hdst
    cases hy : asDecl t (ev s y) with
    | none => simp [hy] at hs
    | some z =>
      simp only [hy] at hs
      cases hset : tgtSet s.σ g z with
      | none => simp [hset] at hs
      | some p =>
        simp only [hset] at hs
        obtain ⟨h1, cs, h2, h3⟩ := asDecl_ok hI hy
        exact store_main hC hI ho hdst hT (hg.store hq) (tgt_ok hI.holds.objs hx (R_ev hI x)) h1 h2 h3 hset hs
  · cases hs

theorem asPure_scalar {σ : Sto} {t : Ty} {av : AV} {z : t.den} {l : List Nat} (hs : scalarA av = true) (h : asPure σ t av = some (z, l)) : l = [] := by
  cases av with
  | d t' x =>
    cases t' <;> simp only [scalarA, Bool.false_eq_true] at hs <;>
      (simp only [asPure] at h
       split at h
       · split at h
         · simp only [Option.some.injEq, Prod.mk.injEq] at h
           rw [← h.2]
           rfl
         · cases h
       · cases h)
  | _ => simp [scalarA] at hs

theorem step_store_touch (hC : CtxOk0 P C) (hI : Inv N w0 M s a) {i : Nat} (hg : GoesS N w0 i M k r K) (ht : touches s o = some i) (hst : ∃ T x y, o.op = .store T x y)
    (hs : stepOp C quiet o s k = some r) : o.wp P a M.w K Q := by
  obtain ⟨T0, x0, y0, hst⟩ := hst
  unfold touches at ht
  split at ht
  · rename_i T x y ho
    cases hsc : scalarA (ev s y) <;> simp only [hsc, cond_true, cond_false] at ht
    · cases ht
    unfold stepOp at hs
    simp only [ho] at hs
    split at hs
    · rename_i i' e j q t hx hT hdst
      simp only [hx, Option.some.injEq] at ht
      subst ht
      cases hy : asPure s.σ t (ev s y) with
      | none => simp [hy] at hs
      | some zl =>
        obtain ⟨z, l⟩ := zl
        have hl := asPure_scalar hsc hy
        subst hl
        simp only [hy] at hs
        cases hset : tgtSet s.σ (.elem i' e j q) ⟨t, z⟩ with
        | none => simp [hset] at hs
        | some p =>
          simp only [hset] at hs
          have hR := tgt_ok hI.holds.objs hx (R_ev hI x)
          have hnil : hot s.σ [] = [] := rfl
          simp only [hnil, List.length_nil] at hs
          have hs' : k (s.setO p.1 p.2) = some r := hs
          obtain ⟨cs, k1, k2, k3⟩ := asPure_ok hI hy (M' := M) (by rw [hnil]; exact fun b hb h => h.elim (fun h => ⟨h, rfl⟩) (fun ⟨_, h, _⟩ => by simp at h))
          exact store_main hC hI ho hdst hT (g := .elem i' e j q) hg (z := ⟨t, z⟩) hR rfl k1 k3 hset hs'
    · rename_i g t hne hx hT hdst
      cases hy : asDecl t (ev s y) with
      | none => simp [hy] at hs
      | some z =>
        simp only [hy] at hs
        cases hset : tgtSet s.σ g z with
        | none => simp [hset] at hs
        | some p =>
          simp only [hset] at hs
          obtain ⟨h1, cs, h2, h3⟩ := asDecl_ok hI hy
          have hoid : g.oid = i := by
            cases g with
            | imm _ _ => simp [tgtSet] at hset
            | obj i' _ _ => simp only [hx, Option.some.injEq] at ht; exact ht
            | elem i' _ _ _ => simp only [hx, Option.some.injEq] at ht; exact ht
          subst hoid
          exact store_main hC hI ho hdst hT hg (tgt_ok hI.holds.objs hx (R_ev hI x)) h1 h2 h3 hset hs
    · cases hs
  · rename_i ho
    rw [hst] at ho
    cases ho
  · cases ht

end
end Go.Lift
