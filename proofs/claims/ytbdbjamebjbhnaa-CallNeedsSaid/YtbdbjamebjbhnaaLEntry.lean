import Derived.Test.YtbdbjamebjbhnaaLCtx
import Derived.WalkKit
import Derived.ProofKit
import Derived.OpenShut
import Derived.JoinedCond
import Derived.Carry
import Derived.DataReads
set_option linter.all false
/- FROM WHAT IS HANDED OVER TO DATA. -/
namespace Go.Lift

/-- Types whose readings are data. -/
def Ty.data : Ty → Bool
  | .int _ | .bool | .str | .nil => true
  | .slice q e => Nat.beq q 0 && (Nat.blt 0 e.size && (e.pure && e.data))
  | .cons a b => a.data && b.data
  | _ => false

/-- Within the bounds of its type. -/
def okD : (t : Ty) → t.den → Prop
  | .int k, x => (Lit.int k x).wf = true
  | .str, (x : List UInt8) => x.length ≤ maxLen
  | .slice _ e, (l : List e.den) => l.length ≤ maxLen ∧ ∀ x, x ∈ l → okD e x
  | .cons a b, x => okD a x.1 ∧ okD b x.2
  | _, _ => True

/-- All that there is is immutable. -/
def Mem.start (W : World) : Mem := { φ := fun _ => undef, nx := 0, own := fun _ => .imm, w := W }

section
variable {P : Program} {H : Type} {enc : TypeId × Value → H} {W : World} {base : Nat} {sp : Nat → Bool} {held : Bool}

theorem cells?_ok {a : Addr} {n : Nat} {cs : List Value} (h : W.cells? base a n = some cs) : cs.length = n ∧ ∀ j, j < n → W.cell? (a.add j) = cs[j]? := by
  unfold World.cells? at h
  split at h
  · have hl := mapM_some_length h
    rw [List.length_range] at hl
    refine ⟨hl, fun j hj => ?_⟩
    exact mapM_some_get h j j (by simp [hj])
  · cases h

theorem cell?_spot {a : Addr} {v : Value} (h : W.cell? a = some v) : a = ⟨a.block, a.off, none⟩ ∧ a.block < W.heap.size := by
  unfold World.cell? at h
  split at h
  · rename_i c t f hb
    split at h
    · cases h
    · rename_i hs
      obtain ⟨b, o, s⟩ := a
      cases s with
      | none => exact ⟨rfl, heap_lt hb⟩
      | some _ => simp at hs
  · cases h

theorem cellsAt_append {b off : Nat} {cs ds : List Value} (h1 : cellsAt W b off cs) (h2 : cellsAt W b (off + cs.length) ds) : cellsAt W b off (cs ++ ds) := by
  intro j v hj
  by_cases h : j < cs.length
  · rw [List.getElem?_append_left h] at hj
    exact h1 j v hj
  · rw [List.getElem?_append_right (by omega)] at hj
    have := h2 _ v hj
    have e : off + cs.length + (j - cs.length) = off + j := by omega
    rwa [e] at this

/-- The elements of a slice. -/
theorem elems_rep {E : TypeId} {e : Ty} {fuel : Nat} (ih : ∀ (cs : List Value) (d : DataW H) (ps : List MemPlace), DataW.trod enc P W base sp held fuel E cs = some (d, ps) → cs.length = e.size → ∃ x, rep (Mem.start W) e cs x ∧ okD e x) {b off n : Nat} (hn : n = e.size) (hpos : 0 < n) :
    ∀ (k i : Nat) (xs : List (DataW H × List MemPlace)), ((List.range' i k).mapM fun i => (W.cells? base ((⟨b, off, none⟩ : Addr).add (i * n)) n).bind (DataW.trod enc P W base sp held fuel E)) = some xs →
      ∃ (css : List (List Value)) (l : List e.den), repAll (rep (Mem.start W) e) css l ∧ cellsAt W b (off + i * n) css.flatten ∧ l.length = k ∧ ∀ x, x ∈ l → okD e x
  | 0, i, xs, _ => ⟨[], [], trivial, fun j v hj => by simp at hj, rfl, fun x hx => by simp at hx⟩
  | k + 1, i, xs, h => by
    rw [List.range'_succ, List.mapM_cons] at h
    cases hc : W.cells? base ((⟨b, off, none⟩ : Addr).add (i * n)) n with
    | none => simp [hc] at h
    | some cs =>
    simp only [hc, Option.bind_some] at h
    cases ht : DataW.trod enc P W base sp held fuel E cs with
    | none => simp [ht] at h
    | some p =>
    simp only [ht] at h
    cases hr : (List.range' (i + 1) k).mapM fun i => (W.cells? base ((⟨b, off, none⟩ : Addr).add (i * n)) n).bind (DataW.trod enc P W base sp held fuel E) with
    | none => simp [hr] at h
    | some rest =>
    obtain ⟨hl, hcs⟩ := cells?_ok hc
    obtain ⟨x, hx, hok⟩ := ih cs p.1 p.2 ht (by rw [hl, hn])
    obtain ⟨css, l, h1, h2, h3, h4⟩ := elems_rep ih hn hpos k (i + 1) rest hr
    refine ⟨cs :: css, x :: l, ⟨hx, h1⟩, ?_, by simp [h3], fun y hy => ?_⟩
    · rw [List.flatten_cons]
      refine cellsAt_append (fun j v hj => ?_) ?_
      · have hjl : j < n := by rw [← hl]; exact (List.getElem?_eq_some_iff.1 hj).1
        have := hcs j hjl
        rw [hj, add_plain, add_plain] at this
        exact this
      · rw [hl]
        have e1 : off + (i + 1) * n = off + i * n + n := by rw [Nat.add_mul]; omega
        rwa [e1] at h2
    · rcases List.mem_cons.1 hy with rfl | hy
      · exact hok
      · exact h4 y hy

/-- The fields of a struct. -/
theorem flds_rep {fuel : Nat} {cs : List Value} (ih : ∀ (T : TypeId) (t : Ty) (cs : List Value) (d : DataW H) (ps : List MemPlace), TyOk P T t → t.data = true → DataW.trod enc P W base sp held fuel T cs = some (d, ps) → cs.length = t.size → ∃ x, rep (Mem.start W) t cs x ∧ okD t x) :
    ∀ (fs : List Field) (n : Nat) (t : Ty) (off : Nat) (xs : List (DataW H × List MemPlace)), fldsOkB P n fs t off = true → t.data = true → (fs.mapM fun f => DataW.trod enc P W base sp held fuel f.type ((cs.drop f.offset).take (P.cellsOf f.type))) = some xs → off + t.size ≤ cs.length →
      ∃ x, rep (Mem.start W) t ((cs.drop off).take t.size) x ∧ okD t x
  | [], n, t, off, xs, hf, hd, _, _ => by
    cases n with
    | zero => simp [fldsOkB] at hf
    | succ n =>
      cases t <;> simp [fldsOkB] at hf
      exact ⟨(), by simp [rep, Ty.size], trivial⟩
  | f :: fs, n, t, off, xs, hf, hd, hx, hl => by
    cases n with
    | zero => simp [fldsOkB] at hf
    | succ n =>
      cases t <;> simp only [fldsOkB, Bool.and_eq_true] at hf <;> try (cases hf; done)
      rename_i a b
      obtain ⟨⟨ho, ha⟩, hb⟩ := hf
      have ho := Nat.eq_of_beq_eq_true ho
      simp only [Ty.data, Bool.and_eq_true] at hd
      simp only [Ty.size] at hl
      rw [List.mapM_cons] at hx
      have hTa : TyOk P f.type a := ⟨n, ha⟩
      obtain ⟨i, z, i1, i2, _⟩ := hTa.info
      have hcl : P.cellsOf f.type = a.size := by simp [Program.cellsOf, i1, i2]
      rw [hcl, ho] at hx
      cases h1 : DataW.trod enc P W base sp held fuel f.type ((cs.drop off).take a.size) with
      | none => simp [h1] at hx
      | some p =>
      simp only [h1] at hx
      cases h2 : (fs.mapM fun f => DataW.trod enc P W base sp held fuel f.type ((cs.drop f.offset).take (P.cellsOf f.type))) with
      | none => simp [h2] at hx
      | some rest =>
      obtain ⟨x, r1, o1⟩ := ih _ a _ p.1 p.2 hTa hd.1 h1 (by rw [List.length_take, List.length_drop]; omega)
      obtain ⟨y, r2, o2⟩ := flds_rep ih fs n b (off + a.size) rest hb hd.2 h2 (by omega)
      refine ⟨(x, y), ?_, o1, o2⟩
      simp only [rep, Ty.size]
      refine ⟨_, _, ?_, r1, r2⟩
      rw [List.take_add, List.drop_drop]

/-- **What is read is a datum.** -/
theorem trod_rep : ∀ (fuel : Nat) (T : TypeId) (t : Ty) (cs : List Value) (d : DataW H) (ps : List MemPlace), TyOk P T t → t.data = true → DataW.trod enc P W base sp held fuel T cs = some (d, ps) → cs.length = t.size → ∃ x, rep (Mem.start W) t cs x ∧ okD t x
  | 0, _, _, _, _, _, _, _, h, _ => by simp [DataW.trod] at h
  | fuel + 1, T, t, cs, d, ps, hT, hd, h, hlen => by
    unfold DataW.trod at h
    cases t with
    | int k =>
      rw [hT.under_int] at h
      split at h <;> (try (cases h; done)) <;> (try (rename_i hh; cases hh; done)) <;> (try (rename_i hh _; cases hh; done))
      · rename_i heq
        cases heq
        split at h
        · rename_i hk
          obtain ⟨rfl, hw⟩ := hk
          exact ⟨_, rfl, hw⟩
        · cases h
    | bool =>
      rw [hT.under_bool] at h
      split at h <;> (try (cases h; done)) <;> (try (rename_i hh; cases hh; done)) <;> (try (rename_i hh _; cases hh; done))
      · exact ⟨_, rfl, trivial⟩
    | str =>
      rw [hT.under_str] at h
      split at h <;> (try (cases h; done)) <;> (try (rename_i hh; cases hh; done)) <;> (try (rename_i hh _; cases hh; done))
      · rename_i s _
        split at h
        · rename_i hs
          exact ⟨s.data.toList, by simp [rep], by simpa [okD] using hs⟩
        · cases h
    | slice q e =>
      obtain ⟨E, hu, rfl, he, hE⟩ := hT.under_slice
      simp only [Ty.data, Bool.and_eq_true, Nat.blt_eq] at hd
      obtain ⟨_, hpos, _, hde⟩ := hd
      rw [hu] at h
      split at h <;> (try (cases h; done)) <;> (try (rename_i hh; cases hh; done)) <;> (try (rename_i hh _; cases hh; done))
      · exact ⟨[], ⟨he, none, 0, rfl, Nat.le_refl _, Nat.zero_le _, by omega, by omega, by omega, fun hn => absurd rfl hn⟩, Nat.zero_le _, fun x hx => by simp at hx⟩
      · rename_i E' a len cap heq
        cases heq
        split at h
        · rename_i hc
          obtain ⟨hb, hlc, hcm⟩ := hc
          rw [Option.bind_eq_some_iff] at h
          obtain ⟨els, h1, _⟩ := h
          obtain ⟨i, z, i1, i2, _⟩ := hE.info
          have hcl : P.cellsOf E = e.size := by simp [Program.cellsOf, i1, i2]
          by_cases h0 : len = 0
          · subst h0
            exact ⟨[], ⟨he, some a, cap, rfl, hlc, hcm, by omega, by omega, by omega, fun hn => absurd rfl hn⟩, Nat.zero_le _, fun x hx => by simp at hx⟩
          · have hspot : a = ⟨a.block, a.off, none⟩ ∧ a.block < W.heap.size := by
              have hg := mapM_some_get h1 0 0 (by rw [List.getElem?_range (by omega)])
              have hlen := mapM_some_length h1
              rw [List.length_range] at hlen
              cases hc0 : W.cells? base (a.add (0 * P.cellsOf E)) (P.cellsOf E) with
              | none =>
                rw [hc0] at hg
                have : els[0]? = some els[0] := List.getElem?_eq_getElem (by omega)
                rw [this] at hg; simp at hg
              | some cs0 =>
                obtain ⟨l0, g0⟩ := cells?_ok hc0
                have := g0 0 (by rw [hcl]; exact hpos)
                have hcs0 : cs0[0]? = some cs0[0] := List.getElem?_eq_getElem (by rw [l0, hcl]; exact hpos)
                rw [hcs0] at this
                exact cell?_spot (by simpa [Addr.add] using this)
            obtain ⟨hs1, hs2⟩ := hspot
            generalize a.block = b at hs1 hs2
            generalize a.off = off at hs1
            subst hs1
            rw [List.range_eq_range', hcl] at h1
            obtain ⟨css, l, k1, k2, k3, k4⟩ := elems_rep (fun cs d ps h hl => trod_rep fuel E e cs d ps hE hde h hl) rfl hpos len 0 els h1
            refine ⟨l, ⟨he, some ⟨b, off, none⟩, cap, by rw [show List.length l = len from k3], by rw [show List.length l = len from k3]; exact hlc, hcm, by omega, by omega, by omega, fun _ => ⟨b, off, css, rfl, hs2, rfl, by have := k2; simp only [Nat.zero_mul, Nat.add_zero] at this; exact this, k1⟩⟩, by rw [show List.length l = len from k3]; omega, k4⟩
        · cases h
    | nil =>
      obtain ⟨fs, n, hu, hf⟩ := hT.under_struct (.inl rfl)
      have : cs = [] := List.eq_nil_of_length_eq_zero (by simpa [Ty.size] using hlen)
      subst this
      exact ⟨(), by simp [rep], trivial⟩
    | cons a b =>
      obtain ⟨fs, n, hu, hf⟩ := hT.under_struct (.inr ⟨a, b, rfl⟩)
      rw [hu] at h
      dsimp only at h
      split at h
      · rw [Option.map_eq_some_iff] at h
        obtain ⟨xs, h1, _⟩ := h
        obtain ⟨x, r, o⟩ := flds_rep (fun T t cs d ps hT hd h hl => trod_rep fuel T t cs d ps hT hd h hl) fs.toList n (.cons a b) 0 xs hf hd h1 (by omega)
        refine ⟨x, ?_, o⟩
        rw [List.drop_zero, List.take_of_length_le (by omega)] at r
        exact r
      · cases h
    | arr n e => simp [Ty.data] at hd
    | any => simp [Ty.data] at hd
    | ref i => simp [Ty.data] at hd
    | nilp m => simp [Ty.data] at hd
    | iptr e => simp [Ty.data] at hd
    | atl e => simp [Ty.data] at hd
    | fn f c => simp [Ty.data] at hd

theorem sizeOf_ty {T : TypeId} {t : Ty} (hT : TyOk P T t) : P.cellsOf T = t.size := by
  obtain ⟨i, z, i1, i2, _⟩ := hT.info
  simp [Program.cellsOf, i1, i2]

/-- **An argument is a datum.** -/
theorem arg_rep {T : TypeId} {t : Ty} {v : Value} {d : DataW H} {ps : List MemPlace} {b0 : Nat} (hT : TyOk P T t) (hd : t.data = true) (hv : Value.okWide P W .any b0 T v) (h : DataW.Trod enc P W base sp held T v d ps) :
    ∃ x, R (Mem.start W) (.d t x) v ∧ okD t x := by
  have key : v = valOf t v.cells.toList ∧ v.cells.toList.length = t.size := by
    unfold Value.okWide at hv
    cases t with
    | int k =>
      rw [hT.under_int] at hv
      cases v <;> simp [Cell.okWide, Cell.ok, hT.under_int] at hv
      exact ⟨rfl, rfl⟩
    | bool =>
      rw [hT.under_bool] at hv
      cases v <;> simp [Cell.okWide, Cell.ok, hT.under_bool] at hv
      exact ⟨rfl, rfl⟩
    | str =>
      rw [hT.under_str] at hv
      cases v <;> simp [Cell.okWide, Cell.ok, hT.under_str] at hv
      exact ⟨rfl, rfl⟩
    | slice q e =>
      obtain ⟨E, hu, _⟩ := hT.under_slice
      rw [hu] at hv
      cases v <;> simp [Cell.okWide, Cell.ok, hu] at hv
      exact ⟨rfl, rfl⟩
    | nil =>
      obtain ⟨fs, n, hu, _⟩ := hT.under_struct (.inl rfl)
      rw [hu] at hv
      obtain ⟨cs, rfl, hs, _⟩ := hv
      refine ⟨by simp [valOf, Ty.isAgg, Value.cells], ?_⟩
      rw [sizeOf_ty hT] at hs
      simpa [Value.cells] using hs
    | cons a b =>
      obtain ⟨fs, n, hu, _⟩ := hT.under_struct (.inr ⟨a, b, rfl⟩)
      rw [hu] at hv
      obtain ⟨cs, rfl, hs, _⟩ := hv
      refine ⟨by simp [valOf, Ty.isAgg, Value.cells], ?_⟩
      rw [sizeOf_ty hT] at hs
      simpa [Value.cells] using hs
    | arr n e => simp [Ty.data] at hd
    | any => simp [Ty.data] at hd
    | ref i => simp [Ty.data] at hd
    | nilp m => simp [Ty.data] at hd
    | iptr e => simp [Ty.data] at hd
    | atl e => simp [Ty.data] at hd
    | fn f c => simp [Ty.data] at hd
  obtain ⟨fuel, h⟩ := h
  obtain ⟨x, h1, h2⟩ := trod_rep fuel T t _ d ps hT hd h key.2
  refine ⟨x, ?_, h2⟩
  simp only [R]
  exact ⟨_, key.1, h1⟩

/-- **A law's call.** -/
theorem law_calls {f : FuncId} {fn : Func} {c : Code} {F : Fun} (hs : SoundF P f F) (hf : P.funcs[f]? = some fn) (hname : (fn.name == "runtime.NumGoroutine") = false) (hb : fn.body = some c) {args : List AV} {vals : List Value} (hR : RC (Mem.start W) args vals)
    {X : Option Bool} (hX : X = some true) (hrun : F.run args [] 0 AV (fun res _ _ _ => some res) = Option.bind X fun y => some (.d .bool y)) : Calls P f vals.toArray W fun e w' => e = .returned (.bool true) ∧ RowKit.Below W.heap.size W w' := by
  rw [hX] at hrun
  obtain ⟨res, as', σ', nx', h1, h2⟩ := hs (Mem.start W) args [] vals AV _ (.d .bool true) hR (fun id => ⟨.inl rfl, trivial⟩) hrun
  simp only [Option.some.injEq] at h1
  subst h1
  have hn : fn.name ≠ "runtime.NumGoroutine" := by simpa using hname
  rcases h2 with ⟨v, w', hr, _⟩ | ⟨_, hc⟩
  · simp [callFunc, hf, hn, hb] at hr
  · refine hc.mono fun e w' he => ?_
    obtain ⟨v, rfl, M', rfl, _, _, hF, hRv, _⟩ := he
    simp only [R, rep] at hRv
    obtain ⟨_, rfl, rfl⟩ := hRv
    exact ⟨rfl, hF.os, hF.tape, hF.output, hF.size, fun b hb => (hF.block b hb (.inl rfl)).1⟩

theorem all_stays (hl : laidOutB P = true) {W' : World} {sp' : Nat → Bool} (hb : RowKit.Below W.heap.size W W') : ∀ {ts : List TypeId} {vs : List Value} {ds : List (DataW H)} {ps : List MemPlace}, (∀ t, t ∈ ts → P.readableRec t = true ∧ t < P.types.size) →
    DataW.TrodAll enc P W 0 (fun _ => true) true ts vs ds ps → (∀ x, x ∈ ps → x.block < W.heap.size) → (∀ x, x ∈ ps → sp' x.block = true) → DataW.TrodAll enc P W' 0 sp' true ts vs ds ps
  | [], [], [], ps, _, h, _, _ => h
  | [], _ :: _, _, _, _, h, _, _ => h.elim
  | [], [], _ :: _, _, _, h, _, _ => h.elim
  | _ :: _, [], _, _, _, h, _, _ => h.elim
  | _ :: _, _ :: _, [], _, _, h, _, _ => h.elim
  | t :: ts, v :: vs, d :: ds, ps, hr, h, hlt, hs => by
    obtain ⟨p, q, h1, h2, rfl⟩ := h
    obtain ⟨r1, r2⟩ := hr t (by simp)
    exact ⟨p, q, WideElems.Trod_stays hl r1 r2 h1 (fun x hx => hb.same (hlt x (by simp [hx]))) (fun x hx => hs x (by simp [hx])),
      all_stays hl hb (fun t ht => hr t (by simp [ht])) h2 (fun x hx => hlt x (by simp [hx])) (fun x hx => hs x (by simp [hx])), rfl⟩

/-- **A law's row: it returns true, and its arguments read as they did.** -/
theorem law_post (hl : laidOutB P = true) {f : Func} {s : ChangeSpec} {B : TypeId} {W' : World} {args : Array Value} {ds gs : List (DataW H)} {before : List MemPlace} (hW : DataW.Whole enc P f.params.toList s.vars false W args.toList ds gs before) (hvars : s.vars = [])
    (hspec : gs = [] → s.fn H (ds ++ gs) = { results := [.lit (.bool true)], args := ds }) (hres : f.resultTypes = #[B]) (hB : P.underlying B = some .bool) (hr : (f.params.toList.all fun t => P.readableRec t && Nat.blt t P.types.size) = true) (hb : RowKit.Below W.heap.size W W') :
    s.post enc P f false true false false W args (.bool true) W' := by
  have hW' := hW
  obtain ⟨p, q, hA, hV, rfl, _, _⟩ := hW
  have hlt : ∀ x, x ∈ p → x.block < W.heap.size := fun x hx => by simpa using hW'.lt x (by simp [hx])
  rw [hvars] at hV
  have hgs : gs = [] ∧ q = [] := by
    cases gs with
    | nil => exact ⟨rfl, hV⟩
    | cons _ _ => exact hV.elim
  obtain ⟨rfl, rfl⟩ := hgs
  have hsp := hspec rfl
  refine ⟨ds, [], p ++ [], [] ++ [], p, [], hW', ?_, ?_, ?_, hb.frame _, fun h => by cases h⟩
  · rw [hsp, hres]
    exact ⟨[], [], ⟨1, by simp [DataW.trod, hB, Value.cells]⟩, rfl, rfl⟩
  · rw [hsp]
    simp only [List.all_eq_true, Bool.and_eq_true, Nat.blt_eq] at hr
    exact all_stays hl hb hr hA hlt (fun x hx => by simpa using hlt x hx)
  · rw [hsp, hvars]
    exact rfl
end
end Go.Lift
