import Derived.Test.YtbdbjamebjbhnaaLEntry
import Derived.Handed
set_option linter.all false
/- THE SIZE OF WHAT IS HANDED OVER. -/
namespace Go.Lift
open Go Go.ChangeShapes Go.WideShapes Go.ChangeAt Go.RowKit

section
variable {H : Type} {enc : TypeId × Value → H} {P : Program} {W : World} {base : Nat} {sp : Nat → Bool} {held : Bool}

theorem weights_get {p : Nat → Bool} : ∀ (ts : List TypeId) (ds : List (DataW H)), (DataW.weightsEach P ts ds).all p = true → ∀ (k : Nat) (t : TypeId) (d : DataW H), ts[k]? = some t → ds[k]? = some d → (d.weights P t).all p = true
  | [], _, _, k, t, d, h1, _ => by simp at h1
  | _ :: _, [], _, k, t, d, _, h2 => by simp at h2
  | t0 :: ts, d0 :: ds, h, k, t, d, h1, h2 => by
    simp only [DataW.weightsEach, List.all_append, Bool.and_eq_true] at h
    cases k with
    | zero =>
      simp only [List.getElem?_cons_zero, Option.some.injEq] at h1 h2
      subst h1; subst h2
      exact h.1
    | succ k =>
      simp only [List.getElem?_cons_succ] at h1 h2
      exact weights_get ts ds h.2 k t d h1 h2

/-- A slice that is handed over is no longer than what a process holds. -/
theorem slice_size {T E : TypeId} {e : Ty} (hu : P.underlying T = some (.slice E)) {v : Value} {d : DataW H} {ps : List MemPlace} {x : List e.den} (hR : R (Mem.start W) (.d (.slice 0 e) x) v) (h : DataW.Trod enc P W base sp held T v d ps)
    (hw : (d.weights P T).all (· ≤ reachBytes) = true) : x.length * P.bytesOf E ≤ reachBytes := by
  simp only [R, rep] at hR
  obtain ⟨cs, hv, he, a, cap, rfl, h1, h2, _, _, _, h3⟩ := hR
  have hv' : v = .slice a x.length cap := hv
  subst hv'
  by_cases hx : x = []
  · subst hx; simp
  · obtain ⟨b, off, css, rfl, _⟩ := h3 hx
    obtain ⟨fuel, h⟩ := h
    cases fuel with
    | zero => simp [DataW.trod] at h
    | succ fuel =>
      unfold DataW.trod at h
      rw [hu] at h
      have hc : (Value.slice (some ⟨b, off, none⟩) x.length cap).cells.toList = [Value.slice (some ⟨b, off, none⟩) x.length cap] := rfl
      rw [hc] at h
      simp only at h
      split at h
      · rw [Option.bind_eq_some_iff] at h
        obtain ⟨els, g1, g2⟩ := h
        have hlen := mapM_some_length g1
        rw [List.length_range] at hlen
        rw [Option.map_eq_some_iff] at g2
        obtain ⟨rest, _, g3⟩ := g2
        simp only [Prod.mk.injEq] at g3
        obtain ⟨rfl, _⟩ := g3
        simp only [DataW.weights, hu, List.all_cons, Bool.and_eq_true, decide_eq_true_eq, List.length_map] at hw
        have h4 := hw.1
        have h5 : x.length * P.bytesOf E ≤ (els.length + rest.length) * P.bytesOf E := Nat.mul_le_mul_right _ (by omega)
        omega
      · cases h
end

/-- As returnsInHanded_of_change, with the sizes. -/
theorem returns_sized {H : Type} {enc : TypeId × Value → H} {a : Assume} {C : Checked} {os : Os} {f : FuncId} {fn : Func} {s : ChangeSpec} {conds : List PathCond} {apart fresh handsOn again : Bool}
    (own : ownKnob C.prog.godebug = none) (started : os.Started) (noInit : C.prog.inits.idxOf? f = none) (hfn : C.prog.funcs[f]? = some fn)
    (witness : ∃ (w : World) (tape : Tape) (i : Input), w.os = os ∧ (w.forCall tape i).Shaped C.prog ∧ i.vars = [] ∧ Input.okWide C.prog (w.forCall tape i) .any w.heap.size f i ∧
      s.pre6 enc C.prog fn conds apart (w.forCall tape i).memory i.args ∧ a.holds C.prog (lone (Frame.enter C.prog f i.args .normal) [] (w.forCall tape i)))
    (contract : ∀ (W : World) (base : Nat) (args : Array Value) (ds gs : List (DataW H)) (before : List MemPlace),
      (∀ (j : Nat) t v, fn.params[j]? = some t → args[j]? = some v → Value.okWide C.prog W .any base t v) →
      DataW.Whole enc C.prog fn.params.toList s.vars apart W args.toList ds gs before →
      (DataW.weightsEach C.prog (fn.params.toList ++ s.plain.varTypes C.prog) (ds ++ gs)).all (· ≤ reachBytes) = true →
      a.holds C.prog (lone (Frame.enter C.prog f args .normal) [] W) →
      Calls C.prog f args W fun e W' => ∃ v, e = .returned v ∧ s.post enc C.prog fn apart fresh handsOn again W args v W') :
    ReturnsInHanded a C os f .any (s.pre6 enc C.prog fn conds apart) (s.post enc C.prog fn apart fresh handsOn again) := by
  refine returnsInHanded_of_calls own started noInit witness ?_
  intro w tape i _ _ _ hok hpre hholds
  obtain ⟨_, _, _, fn', hfn', _, _, _, _, hval⟩ := hok
  have e : fn' = fn := Option.some.inj (hfn'.symm.trans hfn)
  subst e
  obtain ⟨_, _, ds, gs, before, hw, hwt⟩ := hpre
  have hw' := DataW.Whole.of_heap (w' := w.forCall tape i) (by rfl) hw
  refine (contract (w.forCall tape i) w.heap.size i.args ds gs before hval hw' hwt hholds).mono fun e W' ⟨v, he, hp⟩ => ?_
  subst he
  exact ChangeSpec.post_blind hp
end Go.Lift
