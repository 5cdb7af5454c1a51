import Derived.Test.YtbdbjamebjbhnaaLMem
set_option linter.all false
/- STEPS: new memory. -/
namespace Go.Lift
section
variable {P : Program} {C : Ctx} {N : Nat} {w0 : Entry} {M : Mem} {s : St} {a : Act} {quiet : Bool} {o : Oper} {R' : Type} {k : St → Option R'} {r : R'}
  {K : Act → World → Prop} {Q : Exit → Act → World → Prop} {w : World}

theorem Goes.other {s1 : St} {M1 : Mem} (hq : quiet = false) (h : Goes N w0 quiet o s M k r K) : Goes N w0 quiet o s1 M1 k r K :=
  fun s' M' a' h1 h2 _ => h s' M' a' h1 h2 (fun e => by simp [hq] at e)

theorem step_alloc (hC : CtxOk0 P C) (hI : Inv N w0 M s a) (hd : ∀ d, o.dst = some d → d < N) (hg : Goes N w0 quiet o s M k r K) {T : TypeId} (ho : o.op = .alloc T)
    (hs : stepOp C quiet o s k = some r) : o.wp P a M.w K Q := by
  unfold stepOp at hs
  simp only [ho] at hs
  cases hT : C.ty T with
  | none => simp [hT] at hs
  | some t =>
    simp only [hT] at hs
    obtain ⟨z, h1, h2, h3⟩ := (hC.ty _ _ hT).run_zero (P := P) M.w
    refine wp_value (v := .pointer (some ⟨M.w.heap.size, 0, none⟩)) (w' := M.w.alloc (.cells z.cells T)) ?_ ?_
    · simp [execOp, ho, Instr.alloc, h1, newVar, newRow]
    · exact new_done (ob := .box T t.zt t.zt.zero) hI hd hg rfl ⟨M.w.heap.size, z.cells, by simp [Mem.new], by simp [Mem.new], new_heap _ _, (zeroOk_rep h3).2⟩ hs

theorem step_box (hI : Inv N w0 M s a) (hd : ∀ d, o.dst = some d → d < N) (hg : Goes N w0 quiet o s M k r K) {T : TypeId} {x : Operand} (ho : o.op = .box T x)
    (hs : stepOp C quiet o s k = some r) : o.wp P a M.w K Q := by
  unfold stepOp at hs
  simp only [ho] at hs
  cases hT : C.ty T with
  | none => simp [hT] at hs
  | some t =>
    simp only [hT] at hs
    cases hy : asDecl t (ev s x) with
    | none => simp [hy] at hs
    | some z =>
      simp only [hy] at hs
      obtain ⟨_, cs, h1, h2⟩ := asDecl_ok hI hy
      have hcs := valOf_cells h2
      refine wp_value (v := .pointer (some ⟨M.w.heap.size, 0, none⟩)) (w' := M.w.alloc (.cells (valOf z.t cs).cells T)) ?_ ?_
      · simp [execOp, ho, Instr.box, newVar, newRow, h1]
      · exact new_done (ob := .box T z.t z.x) hI hd hg rfl ⟨M.w.heap.size, _, by simp [Mem.new], by simp [Mem.new], new_heap _ _, by rw [hcs]; exact rep_mono (new_turn M _ _).le h2⟩ hs

theorem madeCells_flatten (z : Array Value) : ∀ n, 0 < z.size → (madeCells z (n * z.size)).toList = (List.replicate n z.toList).flatten := by
  intro n hz
  apply List.ext_getElem?
  intro i
  have hlen : (List.replicate n z.toList).flatten.length = n * z.size := by simp
  by_cases hi : i < n * z.size
  · have h1 : (madeCells z (n * z.size)).toList[i]? = some (z[i % z.size]!) := by simp [madeCells, hi]
    rw [h1]
    have key : ∀ n i, i < n * z.size → (List.replicate n z.toList).flatten[i]? = some (z[i % z.size]!) := by
      intro n
      induction n with
      | zero => intro i hi; simp at hi
      | succ n ih =>
        intro i hi
        rw [List.replicate_succ, List.flatten_cons, List.getElem?_append]
        by_cases h : i < z.toList.length
        · rw [if_pos h]
          have h' : i < z.size := by simpa using h
          simp [Nat.mod_eq_of_lt h', h']
        · rw [if_neg h]
          have h' : z.size ≤ i := by simpa using h
          rw [ih (i - z.toList.length) (by simp only [Array.length_toList]; rw [Nat.add_mul] at hi; omega)]
          congr 2
          simp only [Array.length_toList]
          conv => rhs; rw [show i = (i - z.size) + z.size by omega]
          simp
    exact (key n i hi).symm
  · rw [List.getElem?_eq_none (by simp [madeCells]; omega), List.getElem?_eq_none (by rw [hlen]; omega)]

theorem mk_bound {n : Int} {b : Nat} (h : n * b ≤ roomBytes') : (b : Int) * n ≤ 281474976710656 := by
  unfold roomBytes' at h
  rw [Int.mul_comm]
  omega

theorem mk_max {n : Int} (h : n ≤ 9223372036854775807) : n.toNat ≤ maxLen := by simp only [maxLen]; omega


theorem step_makeSlice (hC : CtxOk0 P C) (hI : Inv N w0 M s a) (hd : ∀ d, o.dst = some d → d < N) (hg : Goes N w0 quiet o s M k r K) {T : TypeId} {n m : Operand} (ho : o.op = .makeSlice T n m)
    (hs : stepOp C quiet o s k = some r) : o.wp P a M.w K Q := by
  unfold stepOp at hs
  simp only [ho] at hs
  split at hs
  · rename_i q e n' m' hT hn hm
    cases hb : (decide (0 ≤ n') && decide (n' ≤ m') && decide (m' * C.bytes T ≤ roomBytes') && decide (m' ≤ 9223372036854775807)) <;> simp only [hb, cond_true, cond_false] at hs
    · cases hs
    simp only [Bool.and_eq_true, decide_eq_true_eq] at hb
    obtain ⟨⟨⟨h0, h01⟩, h1⟩, h2⟩ := hb
    obtain ⟨E, hu, _, he, hE⟩ := (hC.ty _ _ hT).under_slice
    obtain ⟨i, z, k1, k2, k3, k4, k5⟩ := hE.info
    have hby := hC.bytes _ _ _ _ _ hT hu k1
    have hel := hC.elem _ _ _ _ hT hu
    have hr := run_make (P := P) M.w T E i z hu k1 k3 .i64 .i64 n' m' h0 h01 (by rw [hby]; exact mk_bound h1) h2
    have hnm : n'.toNat ≤ m'.toNat := Int.toNat_le_toNat h01
    refine wp_value (v := .slice (some ⟨M.w.heap.size, 0, none⟩) (Int.toNat n') (Int.toNat m')) (w' := M.w.alloc (.cells (madeCells z.cells (Int.toNat m' * i.size)) E)) ?_ ?_
    · simp [execOp, ho, int_val hI hn, int_val hI hm, hr]
    · have hzs : z.cells.size = e.size := by
        have := rep_length (zeroOk_rep (M := M) k5).1
        simpa using this
      refine new_done (ob := .vec (C.elem T) e (List.replicate n'.toNat e.zero)) hI hd hg rfl ⟨he, some ⟨M.w.heap.size, 0, none⟩, Int.toNat m', by simp [Mem.new], by rw [List.length_replicate]; exact hnm, mk_max h2, .inr ⟨M.w.heap.size, _, List.replicate (Int.toNat n') z.cells.toList, rfl, by simp [Mem.new],
        by rw [← hel]; exact new_heap _ _, ?_, ?_, repAll_replicate (zeroOk_rep k5).1 _⟩⟩ hs
      · simp [madeCells, k2]
      · rw [List.length_replicate, k2, ← hzs]
        by_cases hpos : 0 < z.cells.size
        · rw [madeCells_flatten z.cells _ hpos]
          have e1 : Int.toNat m' = Int.toNat n' + (Int.toNat m' - Int.toNat n') := by omega
          rw [e1, ← List.replicate_append_replicate, List.flatten_append]
          have e2 : (List.replicate (Int.toNat n') z.cells.toList).flatten.length = Int.toNat n' * z.cells.size := by simp
          rw [← e2, List.take_left]
        · have h0' : z.cells.size = 0 := Nat.eq_zero_of_not_pos hpos
          have : (List.replicate (Int.toNat n') z.cells.toList).flatten = [] := by
            apply List.eq_nil_of_length_eq_zero
            simp [h0']
          rw [this, h0', Nat.mul_zero]; simp
  · cases hs

/-- A pure datum for an operand. -/
theorem asPure_ok (hI : Inv N w0 M s a) {x : Operand} {t : Ty} {y : t.den} {l : List Nat} (h : asPure s.σ t (ev s x) = some (y, l)) {M' : Mem} (hs : Sees M M' (hot s.σ l)) :
    ∃ cs, a.eval x = valOf t cs ∧ t.pure = true ∧ rep M' t cs y := by
  have hR := R_ev hI x
  unfold asPure at h
  split at h
  · rename_i hx
    split at h
    · rename_i e
      cases he : e.pure <;> simp only [he, cond_true, cond_false] at h
      · cases h
      · cases h
        exact ⟨[.slice none 0 0], by rw [nilS_val hI hx]; rfl, rfl, he, none, 0, rfl, Nat.le_refl _, Nat.zero_le _, by omega, by omega, by omega, fun hn => absurd rfl hn⟩
    · cases h
  · cases hv : viewA s.σ (ev s x) with
    | none => simp [hv] at h
    | some z =>
      simp only [hv] at h
      unfold Dat.as at h
      split at h
      · rename_i y' hy'
        split at hy'
        · rename_i hb
          have et := Ty.beq_eq hb
          obtain ⟨zt, zx⟩ := z
          simp only at et
          subst et
          cases hy'
          simp only [Option.some.injEq, Prod.mk.injEq] at h
          obtain ⟨rfl, rfl⟩ := h
          exact viewA_ok hI.holds.objs hs hv hR
        · cases hy'
      · cases h

theorem fill_rows (hI : Inv N w0 M s a) {M' : Mem} {e : Ty} : ∀ (ps : List (Nat × Operand)) (j : Nat) (ys : List e.den) (ids : List Nat) (cells : Array Value) (done : List Value), buildL s e j ps = some (ys, ids) → Sees M M' (hot s.σ ids) → done.length = j * e.size → cells.toList.take (j * e.size) = done →
    cells.size = (j + ys.length) * e.size → ∃ (cells' : Array Value) (css : List (List Value)), Instr.fill (fun i => some (i * e.size, e.size)) cells (ps.map fun p => (p.1, a.eval p.2)) = some cells' ∧ cells'.toList = done ++ css.flatten ∧ repAll (rep M' e) css ys
  | [], j, ys, ids, cells, done, h, _, hd, ht, hs => by
    simp only [buildL, Option.some.injEq, Prod.mk.injEq] at h
    obtain ⟨rfl, rfl⟩ := h
    refine ⟨cells, [], by simp [Instr.fill], ?_, trivial⟩
    have hs' : cells.toList.length = j * e.size := by simpa using hs
    rw [← ht, List.take_of_length_le (by omega)]
    simp
  | (i, x) :: ps, j, ys, ids, cells, done, h, hsee, hd, ht, hs => by
    simp only [buildL] at h
    cases hij : Nat.beq i j <;> simp only [hij, cond_true, cond_false] at h
    · cases h
    · have e1 := Nat.eq_of_beq_eq_true hij
      subst e1
      split at h
      · rename_i y r ys' rs hy hys
        simp only [Option.some.injEq, Prod.mk.injEq] at h
        obtain ⟨rfl, rfl⟩ := h
        obtain ⟨cs, k1, k2, k3⟩ := asPure_ok hI hy (hsee.sub fun j hj => by rw [mem_hot] at hj ⊢; exact ⟨List.mem_append_left _ hj.1, hj.2⟩)
        have hl := rep_length k3
        have hfit : i * e.size + e.size ≤ cells.size := by
          rw [hs, List.length_cons, Nat.add_mul, Nat.add_mul]; omega
        obtain ⟨cells', f1, f2, f3⟩ := fill_one (place := fun i => some (i * e.size, e.size)) (cells := cells) (i := i) (v := a.eval x) (cs := cs) (rest := ps.map fun p => (p.1, a.eval p.2)) rfl (by rw [k1]; exact valOf_size k3) hl hfit
        have hcl : cells.toList.length = cells.size := by simp
        obtain ⟨cells'', css, g1, g2, g3⟩ := fill_rows hI ps (i + 1) ys' rs cells' (done ++ cs) hys (hsee.sub fun j hj => by rw [mem_hot] at hj ⊢; exact ⟨List.mem_append_right _ hj.1, hj.2⟩) (by rw [List.length_append, hd, hl, Nat.add_mul, Nat.one_mul]) (by
            rw [f2, spl, ht, Nat.add_mul, Nat.one_mul]
            rw [show i * e.size + e.size = (done ++ cs).length by rw [List.length_append, hd, hl]]
            exact List.take_left) (by rw [f3, hs, List.length_cons]; congr 1; omega)
        refine ⟨cells'', cs :: css, ?_, ?_, k3, g3⟩
        · rw [List.map_cons, f1, g1]
        · rw [g2]; simp
      · cases h

theorem step_buildSlice (hC : CtxOk0 P C) (hI : Inv N w0 M s a) (hd : ∀ d, o.dst = some d → d < N) (hg : Goes N w0 quiet o s M k r K) {T : TypeId} {n : Nat} {ps : Array (Nat × Operand)} (ho : o.op = .buildSlice T n ps)
    (hs : stepOp C quiet o s k = some r) : o.wp P a M.w K Q := by
  unfold stepOp at hs
  simp only [ho] at hs
  split at hs
  · rename_i q e hT
    cases hb : buildL s e 0 ps.toList with
    | none => simp [hb] at hs
    | some p =>
      obtain ⟨l, ids⟩ := p
      simp only [hb] at hs
      cases hc : (Nat.beq (List.length l) n && (Nat.ble (n * e.size) 16777216 && Nat.ble n 16777216)) <;> simp only [hc, cond_true, cond_false] at hs
      · cases hs
      simp only [Bool.and_eq_true, Nat.ble_eq] at hc
      have hln := Nat.eq_of_beq_eq_true hc.1
      subst hln
      obtain ⟨E, hu, _, he, hE⟩ := (hC.ty _ _ hT).under_slice
      obtain ⟨i, z, k1, k2, k3, k4, k5⟩ := hE.info
      have hel := hC.elem _ _ _ _ hT hu
      -- the work, over memory M'
      have main : ∀ (s' : St) (M' : Mem), Inv N w0 M' s' a → M'.w = M.w → Sees M M' (hot s.σ ids) → Goes N w0 quiet o s' M' k r K → k (s'.new o.dst (.vec (C.elem T) e l)) = some r → o.wp P a M.w K Q := by
        intro s' M' hI' hw hsee hg' hk'
        have hrun : ∃ (cells' : Array Value) (css : List (List Value)), (Instr.buildSlice T (List.length l) (ps.map fun (i, x) => (i, a.eval x))).run P M.w = .ok (.slice (some ⟨M.w.heap.size, 0, none⟩) (List.length l) (List.length l)) (M.w.alloc (.cells cells' E)) ∧
            cells'.toList = [] ++ css.flatten ∧ repAll (rep M' e) css l := by
          have hns : ¬ List.length l * e.size > 2 ^ 24 := by
            have := hc.2.1
            omega
          by_cases h0 : List.length l * e.size = 0
          · obtain ⟨cells', css, f1, f2, f3⟩ := fill_rows hI (M' := M') ps.toList 0 l ids #[] [] hb hsee (by simp) (by simp) (by simpa using h0.symm)
            refine ⟨cells', css, ?_, f2, f3⟩
            simp only [Instr.buildSlice, Sem.run_bind, run_underlying hu, hE.run_sizeOf, Result.andThen_ok, h0, if_true]
            simp [newRow, f1, Array.range_zero']
          · obtain ⟨cells', css, f1, f2, f3⟩ := fill_rows hI (M' := M') ps.toList 0 l ids ((Array.range (List.length l * e.size)).map (z.cells[· % z.cells.size]!)) [] hb hsee (by simp) (by simp) (by simp)
            refine ⟨cells', css, ?_, f2, f3⟩
            have hz : (zeroValue E).run P M.w = .ok z M.w := by simp [zeroValue, typeInfo, k1, k3]
            simp only [Instr.buildSlice, Sem.run_bind, run_underlying hu, hE.run_sizeOf, Result.andThen_ok, if_neg hns, if_neg h0, hz, Sem.run_pure, Array.toList_map, f1]
            simp [newRow]
        obtain ⟨cells', css, hrun, f2, f3⟩ := hrun
        refine wp_value (v := .slice (some ⟨M.w.heap.size, 0, none⟩) (List.length l) (List.length l)) (w' := M.w.alloc (.cells cells' E)) ?_ ?_
        · simp only [execOp, ho, Sem.run_bind, hrun, Result.andThen_ok, Sem.run_pure]
        · rw [← hw]
          refine new_done (ob := .vec (C.elem T) e l) hI' hd hg' rfl ⟨he, some ⟨M.w.heap.size, 0, none⟩, List.length l, by simp [Mem.new, hw], Nat.le_refl _, ?_, .inr ⟨M.w.heap.size, cells', css, rfl, by simp [Mem.new, hw], by rw [← hel]; show (M'.w.alloc _).heap[M.w.heap.size]? = _; rw [← hw]; exact new_heap _ _, ?_, ?_,
            repAll_mono (fun _ _ => rep_mono (new_turn M' _ _).le) f3⟩⟩ hk'
          · have := hc.2.2
            simp only [maxLen]
            omega
          · have := flatten_length f3
            have h2 := congrArg List.length f2
            simp at h2
            rw [h2]; simpa using this
          · rw [f2]
            have := flatten_length f3
            simp only [List.nil_append]
            rw [List.take_of_length_le (by omega)]
      cases hh : Nat.beq (hot s.σ ids).length 0 <;> simp only [hh, cond_true, cond_false] at hs
      · cases hq : quiet <;> simp only [hq, cond_true, cond_false] at hs
        · cases hf : s.frz ids with
          | none => simp [hf] at hs
          | some s' =>
            simp only [hf] at hs
            exact main s' (M.frz (hot s.σ ids)) (frz_inv hI hf) rfl (frz_sees M _) (hg.other hq) hs
        · cases hs
      · have hnil : hot s.σ ids = [] := List.eq_nil_of_length_eq_zero (Nat.eq_of_beq_eq_true hh)
        exact main s M hI rfl (by rw [hnil]; exact fun b hb h => h.elim (fun h => ⟨h, rfl⟩) (fun ⟨_, h, _⟩ => by simp at h)) hg hs
  · cases hs

end
end Go.Lift
