/- ExactOrders holds of the given program: for all arguments the law's code returns true. There are no conditions beyond the given statement's own. -/
import Derived.Test.YtiaemilmhbgdpaaPW01
import Derived.Test.YtiaemilmhbgdpaaLEntry
import Derived.Test.YtiaemilmhbgdpaaRows
set_option linter.all false
namespace Go.Proofs.Ytiaemilmhbgdpaa.exactOrders
open Go.ChangeShapes Go.WideShapes Go.ChangeAt Go.RowKit Go.Lift
set_option linter.unusedVariables false

theorem own : ownKnob Try.prog.godebug = none := by kernel_rfl
theorem laidOut : laidOutB Try.prog = true := by kernel_rfl

theorem contract (H : Type) (enc : TypeId × Value → H) (W : World) (base : Nat) (args : Array Value) (ds gs : List (DataW H)) (before : List MemPlace)
    (hval : ∀ (j : Nat) t v, Try.f6.params[j]? = some t → args[j]? = some v → Value.okWide Try.prog W .any base t v)
    (hW : DataW.Whole enc Try.prog Try.f6.params.toList Rows.exactOrdersSpec.vars false W args.toList ds gs before) :
    Calls Try.prog 6 args W fun e W' => ∃ v, e = .returned v ∧ Rows.exactOrdersSpec.post enc Try.prog Try.f6 false true false false W args v W' := by
  have hW' := hW
  obtain ⟨p, q, hA0, hV, rfl, hfz, hnd⟩ := hW
  have hA : DataW.TrodAll enc Try.prog W 0 (fun _ => true) true Try.f6.params.toList args.toList ds p := hA0
  rw [Try.params6] at hA hval
  obtain ⟨v0, vs0, d0, ds0, p0, q0, hargs, rfl, rfl, h0, r0⟩ := trodAll_cons hA
  obtain ⟨v1, vs1, d1, ds1, p1, q1, rfl, rfl, rfl, h1, r1⟩ := trodAll_cons r0
  obtain ⟨rfl, rfl, rfl⟩ := trodAll_nil r1
  obtain rfl : args = #[v0, v1] := by cases args; simp_all
  obtain ⟨x0, k0, o0⟩ := arg_rep (S01.ctx0.ty 3 _ rfl) rfl (hval 0 _ v0 rfl rfl) h0
  obtain ⟨x1, k1, o1⟩ := arg_rep (S01.ctx0.ty 22 _ rfl) rfl (hval 1 _ v1 rfl rfl) h1
  refine (law_calls (X := S01.orders x0 x1) S01.orders_sound Try.func6 (by kernel_rfl) (c := Try.f6.body.getD .skip) (by kernel_rfl) (args := [.d (.int .i64) x0, .d (.slice 0 (.int .i64)) x1]) (vals := [v0, v1]) ⟨k0, k1, trivial⟩ (S01.orders_true x0 x1) (by kernel_rfl)).mono fun e W' he => ?_
  obtain ⟨rfl, hb⟩ := he
  refine ⟨_, rfl, law_post (B := 4) laidOut hW' rfl (fun hg => ?_) rfl (by kernel_rfl) (by kernel_rfl) hb⟩
  subst hg; rfl

set_option maxRecDepth 100000 in
theorem lifted (os : Os) (started : os.Started) (H : Type) (enc : TypeId × Value → H) :
    ReturnsInHanded {} Try.checked os 6 .any (Rows.exactOrdersSpec.pre6 enc Try.prog Try.f6 Rows.exactOrdersRow.domain false) (Rows.exactOrdersSpec.post enc Try.prog Try.f6 false true false false) := by
  refine returnsInHanded_of_change (C := Try.checked) own started (by kernel_rfl) Try.func6
    (ChangeSpec.witness6 (enc := enc) (C := Try.checked) false ⟨#[], #[.int .i64 0, .slice none 0 0], []⟩ 8 (by kernel_rfl) (by kernel_rfl) (by kernel_rfl) (by kernel_rfl)) ?_
  intro W base args ds gs before hval hW _ _
  exact contract H enc W base args ds gs before hval hW

theorem over : Rows.exactOrdersRow.holds Try.pinned (OpenSpec.ofChange Rows.exactOrdersSpec) :=
  OpenClaim.holds_of_wide 6 Try.f6 rfl rfl rfl rfl rfl rfl rfl ⟨rfl, rfl, rfl, rfl, rfl⟩ rfl rfl rfl rfl rfl (by kernel_rfl) Try.func6 (by kernel_rfl)
    (of_decide_eq_true (by kernel_rfl)) (by unfold Func.isWrapper; first | (rw [if_pos (by decide +kernel)]; kernel_rfl) | (rw [if_neg (by decide +kernel)]; exact ⟨rfl, rfl⟩))
    (fun os started H enc _ => lifted os started H enc)

theorem proved : Rows.ExactOrdersSaid :=
  over
end Go.Proofs.Ytiaemilmhbgdpaa.exactOrders
