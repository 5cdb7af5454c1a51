import Derived.Test.YtbdbjamebjbhnaaLStep3
set_option linter.all false
/- STEPS: parts of slices, struct literals. -/
namespace Go.Lift

def spl (L : List Value) (off : Nat) (cs : List Value) : List Value := L.take off ++ cs ++ L.drop (off + cs.length)

theorem length_spl (L : List Value) (off : Nat) (cs : List Value) (h : off + cs.length ≤ L.length) : (spl L off cs).length = L.length := by
  simp only [spl, List.length_append, List.length_take, List.length_drop]
  omega

theorem foldl_set (off : Nat) : ∀ (vs : List Value) (j : Nat) (cells : Array Value), off + j + vs.length ≤ cells.size →
    ((vs.zipIdx j).foldl (fun cs (p : Value × Nat) => cs.setIfInBounds (off + p.2) p.1) cells).toList = spl cells.toList (off + j) vs
  | [], j, cells, _ => by simp [spl]
  | v :: vs, j, cells, h => by
    simp only [List.length_cons] at h
    rw [List.zipIdx_cons, List.foldl_cons, foldl_set off vs (j + 1) _ (by simp; omega)]
    simp only [Array.toList_setIfInBounds, spl, List.length_cons]
    rw [show off + (j + 1) = off + j + 1 by omega]
    exact list_seg_step cells.toList (off + j) v vs (by simp; omega)

theorem extract_bytes (l : List UInt8) (a b : Nat) (h : a ≤ b) : (ByteArray.mk l.toArray).extract a b = ⟨((l.take b).drop a).toArray⟩ := by
  apply ByteArray.ext
  apply Array.ext'
  simp [ByteArray.data_extract, List.take_drop, Nat.add_sub_cancel' h]

theorem repAll_len {M : Mem} {e : Ty} : ∀ {css : List (List Value)} {l : List e.den}, repAll (rep M e) css l → ∀ c ∈ css, c.length = e.size
  | [], [], _, c, hc => by simp at hc
  | [], _ :: _, h, _, _ => h.elim
  | _ :: _, [], h, _, _ => h.elim
  | c :: css, x :: l, ⟨a, b⟩, d, hd => by
    rcases List.mem_cons.1 hd with rfl | hd
    · exact rep_length a
    · exact repAll_len b d hd

section
variable {P : Program} {C : Ctx} {N : Nat} {w0 : Entry} {M : Mem} {s : St} {a : Act} {quiet : Bool} {o : Oper} {R' : Type} {k : St → Option R'} {r : R'}
  {K : Act → World → Prop} {Q : Exit → Act → World → Prop} {w : World}

theorem num_ok (hI : Inv N w0 M s a) {d : Int} {x : Option Operand} {n : Int} (h : numOr s d x = some n) : (x = none ∧ n = d) ∨ ∃ y kd, x = some y ∧ a.eval y = .int kd n := by
  cases x with
  | none => simp only [numOr, Option.some.injEq] at h; exact .inl ⟨rfl, h.symm⟩
  | some y =>
    simp only [numOr] at h
    split at h
    · rename_i kd m he
      cases h
      exact .inr ⟨y, kd, rfl, int_val hI he⟩
    · cases h

theorem run_bounds (W : World) (hI : Inv N w0 M s a) {isS : Bool} {len cap : Nat} {lo hi : Option Operand} {x y : Int} (h1 : numOr s 0 lo = some x) (h2 : numOr s len hi = some y) (h3 : 0 ≤ x) (h4 : x ≤ y) (h5 : y ≤ len) (h6 : len ≤ cap) :
    (Instr.sliceBounds isS len cap (lo.map a.eval) (hi.map a.eval) none).run P W = .ok (x.toNat, y.toNat, cap) W := by
  have e2 := num_ok hI h2
  have e1 := num_ok hI h1
  have b1 : 0 ≤ y ∧ y ≤ (cap : Int) := ⟨by omega, by omega⟩
  have b2 : 0 ≤ x ∧ x ≤ ((y.toNat : Nat) : Int) := ⟨h3, by omega⟩
  rcases e2 with ⟨rfl, rfl⟩ | ⟨yo, kd, rfl, ey⟩ <;> rcases e1 with ⟨rfl, rfl⟩ | ⟨xo, kd', rfl, ex⟩
  · simp [Instr.sliceBounds]
  · have b2' : 0 ≤ x ∧ x ≤ (len : Int) := ⟨h3, h4⟩
    simp [Instr.sliceBounds, Instr.sliceBound, ex, asIntOf, b2']
  · simp [Instr.sliceBounds, Instr.sliceBound, ey, asIntOf, b1]
  · have m1 : ¬ (max y 0 < x) := by omega
    simp [Instr.sliceBounds, Instr.sliceBound, ey, ex, asIntOf, b1, h3]
    exact fun h => absurd h m1

theorem run_bounds3 (W : World) (hI : Inv N w0 M s a) {len cap : Nat} {lo hi mx : Option Operand} {x y : Int} (h1 : numOr s 0 lo = some x) (h2 : numOr s len hi = some y) (hm : numOr s 0 mx = some y) (hmx : mx.isSome) (hhi : hi.isSome) (h3 : 0 ≤ x) (h4 : x ≤ y) (h5 : y ≤ len) (h6 : len ≤ cap) :
    (Instr.sliceBounds true len cap (lo.map a.eval) (hi.map a.eval) (mx.map a.eval)).run P W = .ok (x.toNat, y.toNat, y.toNat) W := by
  have e3 := num_ok hI hm
  have e2 := num_ok hI h2
  have e1 := num_ok hI h1
  have b1 : 0 ≤ y ∧ y ≤ (cap : Int) := ⟨by omega, by omega⟩
  have b3 : 0 ≤ y ∧ y ≤ ((y.toNat : Nat) : Int) := ⟨by omega, by omega⟩
  have b2 : 0 ≤ x ∧ x ≤ ((y.toNat : Nat) : Int) := ⟨h3, by omega⟩
  rcases e3 with ⟨rfl, _⟩ | ⟨mo, kd'', rfl, em⟩
  · simp at hmx
  rcases e2 with ⟨rfl, _⟩ | ⟨yo, kd, rfl, ey⟩
  · simp at hhi
  rcases e1 with ⟨rfl, rfl⟩ | ⟨xo, kd', rfl, ex⟩
  · have m2 : ¬ (max y 0 < y) := by omega
    simp [Instr.sliceBounds, Instr.sliceBound, ey, em, asIntOf, b1]
    exact fun h => absurd h m2
  · have m1 : ¬ (max y 0 < x) := by omega
    have m2 : ¬ (max y 0 < y) := by omega
    simp [Instr.sliceBounds, Instr.sliceBound, ey, ex, em, asIntOf, b1, h3]
    rw [if_pos (by omega), if_pos (by omega)]

theorem rep_slice_part {M : Mem} {e : Ty} {l : List e.den} {ad : Option Addr} {cap : Nat} {x y m : Nat} (hx : x ≤ y) (hy : y ≤ l.length) (hc : l.length ≤ cap) (hm : y ≤ m) (hmc : m ≤ cap) (hM : cap ≤ maxLen)
    (h : l ≠ [] → ∃ b off css, ad = some ⟨b, off, none⟩ ∧ b < M.w.heap.size ∧ M.own b = .imm ∧ cellsAt M.w b off css.flatten ∧ repAll (rep M e) css l) :
    (m - x ≤ maxLen) ∧ ((l.take y).drop x).length = y - x ∧ ((l.take y).drop x ≠ [] → ∃ b off css, (if m = x then ad else ad.map (·.add (x * e.size))) = some ⟨b, off, none⟩ ∧ b < M.w.heap.size ∧ M.own b = .imm ∧ cellsAt M.w b off css.flatten ∧
      repAll (rep M e) css ((l.take y).drop x)) := by
  have hlen : ((l.take y).drop x).length = y - x := by simp; omega
  refine ⟨by omega, hlen, fun hne => ?_⟩
  have hpos : 0 < y - x := by
    rw [← hlen]
    exact List.length_pos_iff.2 hne
  have hl : l ≠ [] := by intro e; subst e; simp at hy; omega
  obtain ⟨b, off, css, rfl, h2, h3, h4, h5⟩ := h hl
  refine ⟨b, off + x * e.size, (css.take y).drop x, ?_, h2, h3, ?_, repAll_drop x (repAll_take y h5)⟩
  · rw [if_neg (by omega)]
    simp [add_plain]
  · have hlens := repAll_len h5
    have hfd : ∀ (n : Nat) (L : List (List Value)), (∀ c ∈ L, c.length = e.size) → (L.drop n).flatten = L.flatten.drop (n * e.size) := by
      intro n
      induction n with
      | zero => intro L _; simp
      | succ n ih =>
        intro L hL
        cases L with
        | nil => simp
        | cons c L =>
          simp only [List.drop_succ_cons, List.flatten_cons]
          have e1 : (n + 1) * e.size = c.length + n * e.size := by rw [hL c (by simp), Nat.add_mul, Nat.one_mul, Nat.add_comm]
          rw [ih L (fun d hd => hL d (by simp [hd])), e1, List.drop_append, show List.drop (c.length + n * e.size) c = [] from List.drop_eq_nil_of_le (by omega), Nat.add_sub_cancel_left, List.nil_append]
    have hft : ∀ (n : Nat) (L : List (List Value)), (∀ c ∈ L, c.length = e.size) → (L.take n).flatten = L.flatten.take (n * e.size) := by
      intro n
      induction n with
      | zero => intro L _; simp
      | succ n ih =>
        intro L hL
        cases L with
        | nil => simp
        | cons c L =>
          simp only [List.take_succ_cons, List.flatten_cons]
          have e1 : (n + 1) * e.size = c.length + n * e.size := by rw [hL c (by simp), Nat.add_mul, Nat.one_mul, Nat.add_comm]
          rw [ih L (fun d hd => hL d (by simp [hd])), e1, List.take_append, List.take_of_length_le (l := c) (by omega), Nat.add_sub_cancel_left]
    rw [hfd x _ (fun c hc => hlens c (List.mem_of_mem_take hc)), hft y css hlens]
    intro j v hj
    rw [List.getElem?_drop, List.getElem?_take] at hj
    split at hj
    · have := h4 _ v hj
      rwa [← Nat.add_assoc] at this
    · cases hj


/-- A slice expression on what is immutable. -/
theorem slice_run (hC : CtxOk0 P C) (hI : Inv N w0 M s a) {S : TypeId} {t : Ty} {z : Dat} {v : Value} {cs : List Value} {lo hi mx : Option Operand} {av : AV} (hT : C.ty S = some t) (hv : v = valOf z.t cs)
    (hr : rep M z.t cs z.x) (h : sliceD s t z lo hi mx = some (true, av)) :
    ∃ v', (∀ W, (Instr.sliceAt S v (lo.map a.eval) (hi.map a.eval) (mx.map a.eval)).run P W = .ok v' W) ∧ R M av v' := by
  unfold sliceD at h
  split at h
  · rename_i q e l q' e'
    obtain ⟨E, hu, _, he', hE⟩ := (hC.ty _ _ hT).under_slice
    have he : e.pure = true := hr.1
    obtain ⟨_, ad, cap, rfl, hlc, hcM, _, _, _, hbl⟩ := hr
    have hlc : List.length l ≤ cap := hlc
    have main : ∀ (x y : Int) (m : Nat), 0 ≤ x → x ≤ y → y ≤ List.length l → y.toNat ≤ m → m ≤ cap → e.shape = e'.shape →
        (∀ W, (Instr.sliceBounds true (List.length l) cap (lo.map a.eval) (hi.map a.eval) (mx.map a.eval)).run P W = .ok (x.toNat, y.toNat, m) W) →
        ∀ W, (Instr.sliceAt S v (lo.map a.eval) (hi.map a.eval) (mx.map a.eval)).run P W = .ok (.slice (if m = x.toNat then ad else ad.map (·.add (x.toNat * e.size))) (y.toNat - x.toNat) (m - x.toNat)) W := by
      intro x y m h1 h2 h3 h4 h5 hsh hb W
      have hv' : v = .slice ad (List.length l) cap := by rw [hv]; rfl
      simp only [Instr.sliceAt, Instr.slice, Sem.run_bind, run_underlying hu, Result.andThen_ok, hv', hb W, hE.run_sizeOf, Sem.run_pure]
      rw [size_of_shape hsh]
    cases hx : numOr s 0 lo with
    | none => simp [hx] at h
    | some x =>
    cases hy : numOr s (List.length l : Nat) hi with
    | none => simp [hx, hy] at h
    | some y =>
    cases mx with
    | none =>
      simp only [hx, hy] at h
      simp only [Option.some.injEq, Prod.mk.injEq, Bool.and_eq_true, decide_eq_true_eq] at h
      obtain ⟨⟨hsh, ⟨h1, h2⟩, h3⟩, rfl⟩ := h
      have hb := fun W => run_bounds (P := P) W (isS := true) (cap := cap) hI hx hy h1 h2 h3 hlc
      obtain ⟨g1, g2, g3⟩ := rep_slice_part (M := M) (ad := ad) (x := x.toNat) (y := y.toNat) (m := cap) (by omega) (by omega) hlc (by omega) (Nat.le_refl _) hcM hbl
      refine ⟨_, main x y cap h1 h2 h3 (by omega) (Nat.le_refl _) (Ty.beq_eq hsh) hb, ?_⟩
      simp only [R]
      refine ⟨[_], rfl, he, _, cap - x.toNat, by rw [g2], ?_, g1, by omega, by omega, by omega, g3⟩
      show List.length _ ≤ _
      rw [g2]; omega
    | some mo =>
      cases hm : numOr s 0 (some mo) with
      | none => simp [hx, hy, hm] at h
      | some m =>
      simp only [hx, hy, hm] at h
      simp only [Option.some.injEq, Prod.mk.injEq, Bool.and_eq_true, decide_eq_true_eq, beq_iff_eq] at h
      obtain ⟨⟨⟨hsh, ⟨h1, h2⟩, h3⟩, hmy, hhi⟩, rfl⟩ := h
      subst hmy
      have hb := fun W => run_bounds3 (P := P) W (cap := cap) hI hx hy hm rfl hhi h1 h2 h3 hlc
      obtain ⟨g1, g2, g3⟩ := rep_slice_part (M := M) (ad := ad) (x := x.toNat) (y := m.toNat) (m := m.toNat) (by omega) (by omega) hlc (by omega) (by omega) hcM hbl
      refine ⟨_, main x m m.toNat h1 h2 h3 (Nat.le_refl _) (by omega) (Ty.beq_eq hsh) hb, ?_⟩
      simp only [R]
      refine ⟨[_], rfl, he, _, m.toNat - x.toNat, by rw [g2], ?_, g1, fun _ => ?_, by omega, by omega, g3⟩
      · show List.length _ ≤ _
        rw [g2]; exact Nat.le_refl _
      · show _ = List.length _
        rw [g2]
  · rename_i l
    have hu := (hC.ty _ _ hT).under_str
    split at h
    · rename_i x y hx hy
      simp only [Option.some.injEq, Prod.mk.injEq, Bool.and_eq_true, decide_eq_true_eq] at h
      obtain ⟨⟨⟨h1, h2⟩, h3⟩, rfl⟩ := h
      have hb := fun W => run_bounds (P := P) W (isS := false) (len := List.length l) (cap := List.length l) hI hx hy h1 h2 h3 (Nat.le_refl _)
      simp only [rep] at hr
      subst hr
      refine ⟨.string ⟨((List.take y.toNat l).drop x.toNat).toArray⟩, fun W => ?_, ?_⟩
      · have hv' : v = .string ⟨List.toArray l⟩ := by rw [hv]; rfl
        have hsz : (ByteArray.mk (List.toArray l)).size = List.length l := rfl
        simp only [Instr.sliceAt, Instr.slice, Sem.run_bind, run_underlying hu, Result.andThen_ok, hv', hsz, Option.map_none, Option.isSome_none, Bool.false_eq_true, if_false, hb W, Sem.run_pure]
        rw [extract_bytes _ _ _ (by omega)]
      · simp only [R]
        exact ⟨[_], rfl, rfl⟩
    · cases h
  · cases h

theorem step_slice (hC : CtxOk0 P C) (hI : Inv N w0 M s a) (hd : ∀ d, o.dst = some d → d < N) (hg : Goes N w0 quiet o s M k r K) {S : TypeId} {x : Operand} {lo hi mx : Option Operand} (ho : o.op = .slice S x lo hi mx)
    (hs : stepOp C quiet o s k = some r) : StillWp P o a M.w K := by
  unfold stepOp at hs
  simp only [ho] at hs
  have hR := R_ev hI x
  cases hT : C.ty S with
  | none => simp [hT] at hs
  | some t =>
    simp only [hT] at hs
    have imm : ∀ (z : Dat), ev s x = .d z.t z.x → (match sliceD s t z lo hi mx with
        | some (g, av) => bif g then k (s.put o.dst av) else none
        | none => none) = some r → StillWp P o a M.w K := by
      intro z hx hs
      cases hsl : sliceD s t z lo hi mx with
      | none => simp [hsl] at hs
      | some p =>
        obtain ⟨g, av⟩ := p
        simp only [hsl] at hs
        cases g <;> simp only [cond_true, cond_false] at hs
        · cases hs
        rw [hx] at hR
        simp only [R] at hR
        obtain ⟨cs, e1, e2⟩ := hR
        obtain ⟨v', k1, k2⟩ := slice_run hC hI hT e1 e2 hsl
        refine still_value (v := v') (fun W => ?_) (put_done hI hd hg k2 hs)
        simp only [execOp, ho, Sem.run_bind, k1 _, Result.andThen_ok, Sem.run_pure]
    split at hs
    · rename_i q e l hx; exact imm ⟨.slice q e, l⟩ hx hs
    · rename_i l hx; exact imm ⟨.str, l⟩ hx hs
    · split at hs
      · rename_i id e j len q e' hel
        cases hsl : sliceO s id e e' j len lo hi with
        | none => simp [hsl] at hs
        | some p =>
          obtain ⟨g, av⟩ := p
          simp only [hsl] at hs
          cases g <;> simp only [cond_true, cond_false] at hs
          · cases hs
          unfold sliceO at hsl
          split at hsl
          · rename_i y z hy hz
            simp only [Option.some.injEq, Prod.mk.injEq, Bool.and_eq_true, decide_eq_true_eq] at hsl
            obtain ⟨⟨hsh, ⟨h1, h2⟩, h3⟩, rfl⟩ := hsl
            obtain ⟨m1, ad, n, cap, ad', m2, m3, m4, m5, m6, m7, _⟩ := elemOf_ok hI.holds.objs hel hR
            obtain ⟨E, hu, _, he', hE⟩ := (hC.ty _ _ hT).under_slice
            have hb := fun W => run_bounds (P := P) W (isS := true) (cap := cap - j) hI hy hz h1 h2 h3 (by omega)
            have hsz := size_of_shape (Ty.beq_eq hsh)
            refine still_value (v := .slice (if cap - j = y.toNat then ad' else ad'.map (·.add (y.toNat * e'.size))) (z.toNat - y.toNat) (cap - j - y.toNat)) (fun W => ?_) (put_done hI hd hg ?_ hs)
            · simp only [execOp, ho, Instr.sliceAt, Instr.slice, Sem.run_bind, run_underlying hu, Result.andThen_ok, m3, Option.map_none, hb W, hE.run_sizeOf, Sem.run_pure]
            · simp only [R]
              refine ⟨m1, ad, n, cap, m2, by omega, by omega, m5, _, by congr 1 <;> omega, fun hlt => ?_⟩
              rw [if_neg (by omega), m6 (by omega), ← hsz]
              rcases m7 with ⟨rfl, _⟩ | ⟨g, rfl⟩
              · rfl
              · simp only [Option.map_some, Option.some.injEq, add_plain, Nat.zero_add, Nat.add_mul]
          · cases hsl
      · cases hs

/-! ### Struct literals -/

theorem plain_ok {t : Ty} {x : t.den} {cs : List Value} (h : rep M t cs x) : rep M (Dat.plain ⟨t, x⟩).t cs (Dat.plain ⟨t, x⟩).x ∧ (Dat.plain ⟨t, x⟩).t.shape = t.shape := by
  cases t with
  | slice q e =>
    by_cases hq : q = 3
    · subst hq; exact ⟨h, rfl⟩
    · have e1 : Dat.plain ⟨.slice q e, x⟩ = ⟨.slice 0 e, x⟩ := by
        match q, hq with
        | 0, _ => rfl
        | 1, _ => rfl
        | 2, _ => rfl
        | 3, h => exact absurd rfl h
        | n + 4, _ => rfl
      rw [e1]
      obtain ⟨he, a, cap, h1, h2, h3, _, _, _, h4⟩ := h
      exact ⟨⟨he, a, cap, h1, h2, h3, by omega, by omega, by omega, h4⟩, rfl⟩
  | _ => exact ⟨h, rfl⟩

theorem asDecl_ok (hI : Inv N w0 M s a) {x : Operand} {t : Ty} {z : Dat} (h : asDecl t (ev s x) = some z) : z.t.shape = t.shape ∧ ∃ cs, a.eval x = valOf z.t cs ∧ rep M z.t cs z.x := by
  have hR := R_ev hI x
  unfold asDecl at h
  split at h
  · rename_i hx
    split at h
    · rename_i q e
      cases he : e.pure <;> simp only [he, cond_true, cond_false] at h
      · cases h
      · cases h
        exact ⟨rfl, [.slice none 0 0], by rw [nilS_val hI hx]; rfl, he, none, 0, rfl, Nat.le_refl _, Nat.zero_le _, by omega, by omega, fun _ => ⟨rfl, rfl⟩, fun hn => absurd rfl hn⟩
    · cases h
  · rename_i t' y hx
    cases hb : t'.shape.beq t.shape <;> simp only [hb, cond_true, cond_false] at h
    · cases h
    · cases h
      rw [hx] at hR
      simp only [R] at hR
      obtain ⟨cs, h1, h2⟩ := hR
      obtain ⟨k1, k2⟩ := plain_ok h2
      exact ⟨k2.trans (Ty.beq_eq hb), cs, by rw [h1]; exact (valOf_agg (isAgg_of_shape k2) cs).symm, k1⟩
  · rename_i i t' hx
    cases hb : t.shape.beq .any <;> simp only [hb, cond_true, cond_false] at h
    · cases h
    · cases h
      rw [hx] at hR
      simp only [R] at hR
      obtain ⟨h1, h2, b, h3, h4⟩ := hR
      exact ⟨(Ty.beq_eq hb).symm, [M.φ i], by rw [h4, h3]; rfl, h1, rfl, by rw [h3]; rfl⟩
  · cases h

theorem valOf_size {t : Ty} {cs : List Value} {x : t.den} (h : rep M t cs x) : (valOf t cs).cells = cs.toArray := by
  have := valOf_cells h
  apply Array.ext'
  rw [this]

theorem fill_one {place : Nat → Option (Nat × Nat)} {cells : Array Value} {i off size : Nat} {v : Value} {cs : List Value} {rest : List (Nat × Value)} (hp : place i = some (off, size)) (hc : v.cells = cs.toArray) (hl : cs.length = size)
    (hfit : off + size ≤ cells.size) : ∃ cells' : Array Value, Instr.fill place cells ((i, v) :: rest) = Instr.fill place cells' rest ∧ cells'.toList = spl cells.toList off cs ∧ cells'.size = cells.size := by
  have hf := foldl_set off cs 0 cells (by omega)
  refine ⟨cs.toArray.zipIdx.foldl (fun cs (p : Value × Nat) => cs.setIfInBounds (off + p.2) p.1) cells, ?_, ?_, ?_⟩
  · have hn : (decide (v.cells.size ≠ size) || decide (off + v.cells.size > cells.size)) = false := by
      rw [hc]
      simp [hl]
      omega
    simp only [Instr.fill, hp, hn, Bool.false_eq_true, if_false]
    rw [hc]
  · rw [← Array.foldl_toList]
    simpa using hf
  · have : (cs.toArray.zipIdx.foldl (fun cs (p : Value × Nat) => cs.setIfInBounds (off + p.2) p.1) cells).toList.length = cells.toList.length := by
      rw [← Array.foldl_toList]
      have := congrArg List.length hf
      rw [Nat.add_zero, length_spl _ _ _ (by simp; omega)] at this
      simpa using this
    simpa using this


theorem setFld_shape : ∀ {t : Ty} {x : t.den} {i : Nat} {y z : Dat} {u : Ty}, fldT t i = some u → y.t.shape = u.shape → setFld t x i y = some z → z.t.shape = t.shape := by
  intro t
  induction t with
  | cons a b iha ihb =>
    intro x i y z u hu hy hz
    cases i with
    | zero =>
      simp only [fldT, Option.some.injEq] at hu
      subst hu
      simp only [setFld, Option.some.injEq] at hz
      subst hz
      simp [Ty.shape, hy]
    | succ i =>
      simp only [fldT] at hu
      simp only [setFld] at hz
      cases hs : setFld b x.2 i y with
      | none => simp [hs] at hz
      | some w =>
        simp only [hs, Option.some.injEq] at hz
        subst hz
        simp [Ty.shape, ihb hu hy hs]
  | _ => intro x i y z u hu; simp [fldT] at hu

theorem rep_setFld : ∀ {t : Ty} {cs cy : List Value} {x : t.den} {i : Nat} {y z' : Dat} {u : Ty}, rep M t cs x → fldT t i = some u → y.t.shape = u.shape → rep M y.t cy y.x →
    setFld t x i y = some z' → rep M z'.t (spl cs (fldOff t i) cy) z'.x := by
  intro t
  induction t with
  | cons a b iha ihb =>
    intro cs cy x i y z' u h hf hsh hy hz
    simp only [rep] at h
    obtain ⟨c1, c2, rfl, h1, h2⟩ := h
    have l1 := rep_length h1
    cases i with
    | zero =>
      simp only [fldT, Option.some.injEq] at hf
      subst hf
      simp only [setFld, Option.some.injEq] at hz
      subst hz
      have ly := rep_length hy
      rw [size_of_shape hsh] at ly
      refine ⟨cy, c2, ?_, hy, h2⟩
      simp only [spl, fldOff, List.take_zero, List.nil_append, Nat.zero_add]
      rw [ly, ← l1]
      simp
    | succ i =>
      simp only [fldT] at hf
      simp only [setFld] at hz
      cases hs : setFld b x.2 i y with
      | none => simp [hs] at hz
      | some z =>
        simp only [hs, Option.some.injEq] at hz
        subst hz
        refine ⟨c1, spl c2 (fldOff b i) cy, ?_, h1, ihb h2 hf hsh hy hs⟩
        simp only [spl, fldOff]
        rw [← l1, List.take_append, List.take_of_length_le (by omega), Nat.add_assoc, List.drop_append, List.drop_eq_nil_of_le (by omega)]
        simp [Nat.add_sub_cancel_left]
  | _ => intro cs cy x i y z' u h hf; simp [fldT] at hf

theorem places_ok {fs : List Field} : ∀ {t : Ty} {n off : Nat}, fldsOkB P n fs t off = true → ∃ pl : List (Nat × Nat), fs.mapM (fun f => (P.info? f.type).map fun i => (f.offset, i.size)) = some pl ∧
    ∀ i u, fldT t i = some u → pl[i]? = some (off + fldOff t i, u.size) := by
  induction fs with
  | nil =>
    intro t n off h
    refine ⟨[], by simp, fun i u hu => ?_⟩
    cases n with
    | zero => simp [fldsOkB] at h
    | succ n => cases t <;> first | (simp [fldsOkB] at h; done) | (cases i <;> simp [fldT] at hu)
  | cons f fs ih =>
    intro t n off h
    cases n with
    | zero => simp [fldsOkB] at h
    | succ n =>
      cases t <;> simp [fldsOkB] at h
      rename_i a b
      obtain ⟨⟨h1, h2⟩, h3⟩ := h
      obtain ⟨pl, k1, k2⟩ := ih h3
      have hT : TyOk P f.type a := ⟨n, h2⟩
      refine ⟨(f.offset, a.size) :: pl, ?_, fun i u hu => ?_⟩
      · obtain ⟨inf, _, i1, i2, _⟩ := hT.info
        simp [List.mapM_cons, i1, i2, k1]
      · cases i with
        | zero => simp only [fldT, Option.some.injEq] at hu; subst hu; simp [fldOff, h1]
        | succ i => simp only [fldT] at hu; simp only [List.getElem?_cons_succ, k2 i u hu, fldOff]; congr 2; omega


theorem fill_flds (hI : Inv N w0 M s a) {t : Ty} {pl : Array (Nat × Nat)} (hpl : ∀ i u, fldT t i = some u → pl[i]? = some (fldOff t i, u.size)) : ∀ (ps : List (Nat × Operand)) (z z' : Dat) (cells : Array Value), buildD s t ps z = some z' → z.t.shape = t.shape →
    rep M z.t cells.toList z.x → ∃ cells' : Array Value, Instr.fill (pl[·]?) cells (ps.map fun p => (p.1, a.eval p.2)) = some cells' ∧ z'.t.shape = t.shape ∧ rep M z'.t cells'.toList z'.x
  | [], z, z', cells, h, ht, hr => by
    simp only [buildD, Option.some.injEq] at h
    subst h
    exact ⟨cells, by simp [Instr.fill], ht, hr⟩
  | (i, x) :: ps, z, z', cells, h, ht, hr => by
    simp only [buildD] at h
    cases hf : fldD t t.zero i with
    | none => simp [hf] at h
    | some f =>
      simp only [hf] at h
      cases hy : asDecl f.t (ev s x) with
      | none => simp [hy] at h
      | some y =>
        simp only [hy] at h
        cases hs : setFld z.t z.x i y with
        | none => simp [hs] at h
        | some z1 =>
          simp only [hs] at h
          obtain ⟨k0, cs, k1, k2⟩ := asDecl_ok hI hy
          have hft := fldD_t hf
          obtain ⟨u, u1, u2, u3⟩ := fld_shape ht.symm hft
          have e2 := rep_setFld hr u1 (k0.trans u2) k2 hs
          have hl := rep_length k2
          have hle := fldOff_le hft
          have hsz := size_of_shape k0
          obtain ⟨cells', f1, f2, f3⟩ := fill_one (place := (pl[·]?)) (cells := cells) (i := i) (v := a.eval x) (cs := cs) (rest := ps.map fun p => (p.1, a.eval p.2)) (hpl i f.t hft) (by rw [k1]; exact valOf_size k2) (by rw [hl, hsz]) (by
            have := rep_length hr
            rw [size_of_shape ht] at this
            simp only [Array.length_toList] at this
            omega)
          obtain ⟨cells'', g1, g2, g3⟩ := fill_flds hI hpl ps z1 z' cells' h ((setFld_shape u1 (k0.trans u2) hs).trans ht) (by rw [f2, ← u3]; exact e2)
          exact ⟨cells'', by rw [List.map_cons, f1, g1], g2, g3⟩

theorem zt_shape : ∀ t : Ty, t.zt.shape = t.shape := by
  intro t
  induction t with
  | cons a b iha ihb => simp [Ty.zt, Ty.shape, iha, ihb]
  | _ => rfl

theorem step_build (hC : CtxOk0 P C) (hI : Inv N w0 M s a) (hd : ∀ d, o.dst = some d → d < N) (hg : Goes N w0 quiet o s M k r K) {T : TypeId} {ps : Array (Nat × Operand)} (ho : o.op = .build T ps)
    (hs : stepOp C quiet o s k = some r) : StillWp P o a M.w K := by
  unfold stepOp at hs
  simp only [ho] at hs
  cases hT : C.ty T with
  | none => simp [hT] at hs
  | some t =>
    simp only [hT] at hs
    cases hcs : isStruct t <;> simp only [hcs, cond_true, cond_false] at hs
    · cases hs
    cases hb : buildD s t ps.toList ⟨t.zt, t.zt.zero⟩ with
    | none => simp [hb] at hs
    | some z =>
      simp only [hb] at hs
      have hst : t = .nil ∨ ∃ a b, t = .cons a b := by cases t <;> simp_all [isStruct]
      obtain ⟨zv, h1, h2, h3⟩ := (hC.ty _ _ hT).run_zero (P := P) M.w
      obtain ⟨fs, n, f1, f2⟩ := (hC.ty _ _ hT).under_struct hst
      obtain ⟨pl, k1, k2⟩ := places_ok (P := P) f2
      obtain ⟨cells', g1, g2, g3⟩ := fill_flds hI (pl := pl.toArray) (fun i u hu => by simpa using k2 i u hu) ps.toList ⟨t.zt, t.zt.zero⟩ z zv.cells hb (zt_shape t) (zeroOk_rep h3).2
      have hza : z.t.isAgg = true := by rw [isAgg_of_shape g2]; rcases hst with h | ⟨x, y, h⟩ <;> rw [h] <;> rfl
      refine still_value (v := .agg cells') (fun W => ?_) (put_done hI hd hg ?_ hs)
      · obtain ⟨inf, zv', i1, i2, i3, i4, i5⟩ := (hC.ty _ _ hT).info
        have hzz : zv' = zv := by
          have h1' := h1
          simp [zeroValue, typeInfo, i1, i3] at h1'
          exact h1'
        subst hzz
        have hbt : P.built T (ps.map fun (i, x) => (i, a.eval x)).toList = some cells' := by
          simp only [Program.built, i1, f1, i3, k1, Array.toList_map]
          exact g1
        simp only [execOp, ho, Sem.run_bind, run_build (P := P) W T _ cells' hbt, Result.andThen_ok, Sem.run_pure]
      · simp only [Dat.av, R]
        exact ⟨cells'.toList, by simp [valOf, hza], g3⟩
end
end Go.Lift
