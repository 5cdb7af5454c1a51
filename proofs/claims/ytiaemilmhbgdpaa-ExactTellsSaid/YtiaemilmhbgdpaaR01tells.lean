/- ExactTells holds of the given program: for all arguments the law's code returns true. There are no conditions beyond the given statement's own. -/
import Derived.Test.YtiaemilmhbgdpaaPY01
import Derived.Test.YtiaemilmhbgdpaaLEntry
import Derived.Test.YtiaemilmhbgdpaaRows
set_option linter.all false
namespace Go.Proofs.Ytiaemilmhbgdpaa.exactTells
open Go.ChangeShapes Go.WideShapes Go.ChangeAt Go.RowKit Go.Lift
set_option linter.unusedVariables false

theorem own : ownKnob Try.prog.godebug = none := by kernel_rfl
theorem laidOut : laidOutB Try.prog = true := by kernel_rfl

theorem contract (H : Type) (enc : TypeId × Value → H) (W : World) (base : Nat) (args : Array Value) (ds gs : List (DataW H)) (before : List MemPlace)
    (hval : ∀ (j : Nat) t v, Try.f3.params[j]? = some t → args[j]? = some v → Value.okWide Try.prog W .any base t v)
    (hW : DataW.Whole enc Try.prog Try.f3.params.toList Rows.exactTellsSpec.vars false W args.toList ds gs before) :
    Calls Try.prog 3 args W fun e W' => ∃ v, e = .returned v ∧ Rows.exactTellsSpec.post enc Try.prog Try.f3 false true false false W args v W' := by
  have hW' := hW
  obtain ⟨p, q, hA0, hV, rfl, hfz, hnd⟩ := hW
  have hA : DataW.TrodAll enc Try.prog W 0 (fun _ => true) true Try.f3.params.toList args.toList ds p := hA0
  rw [Try.params3] at hA hval
  obtain ⟨v0, vs0, d0, ds0, p0, q0, hargs, rfl, rfl, h0, r0⟩ := trodAll_cons hA
  obtain ⟨v1, vs1, d1, ds1, p1, q1, rfl, rfl, rfl, h1, r1⟩ := trodAll_cons r0
  obtain ⟨v2, vs2, d2, ds2, p2, q2, rfl, rfl, rfl, h2, r2⟩ := trodAll_cons r1
  obtain ⟨v3, vs3, d3, ds3, p3, q3, rfl, rfl, rfl, h3, r3⟩ := trodAll_cons r2
  obtain ⟨rfl, rfl, rfl⟩ := trodAll_nil r3
  obtain rfl : args = #[v0, v1, v2, v3] := by cases args; simp_all
  obtain ⟨x0, k0, o0⟩ := arg_rep (S01.ctx0.ty 3 _ rfl) rfl (hval 0 _ v0 rfl rfl) h0
  obtain ⟨x1, k1, o1⟩ := arg_rep (S01.ctx0.ty 3 _ rfl) rfl (hval 1 _ v1 rfl rfl) h1
  obtain ⟨x2, k2, o2⟩ := arg_rep (S01.ctx0.ty 3 _ rfl) rfl (hval 2 _ v2 rfl rfl) h2
  obtain ⟨x3, k3, o3⟩ := arg_rep (S01.ctx0.ty 22 _ rfl) rfl (hval 3 _ v3 rfl rfl) h3
  refine (law_calls (X := S01.tells x0 x1 x2 x3) S01.tells_sound Try.func3 (by kernel_rfl) (c := Try.f3.body.getD .skip) (by kernel_rfl) (args := [.d (.int .i64) x0, .d (.int .i64) x1, .d (.int .i64) x2, .d (.slice 0 (.int .i64)) x3]) (vals := [v0, v1, v2, v3]) ⟨k0, k1, k2, k3, trivial⟩ (S01.tells_true x0 x1 x2 x3 (Ar.InR_of o0) (Ar.InR_of o1) (Ar.InR_of o2) (fun x hx => Ar.InR_of (o3.2 x hx)) o3.1) (by kernel_rfl)).mono fun e W' he => ?_
  obtain ⟨rfl, hb⟩ := he
  refine ⟨_, rfl, law_post (B := 4) laidOut hW' rfl (fun hg => ?_) rfl (by kernel_rfl) (by kernel_rfl) hb⟩
  subst hg; rfl

set_option maxRecDepth 100000 in
theorem lifted (os : Os) (started : os.Started) (H : Type) (enc : TypeId × Value → H) :
    ReturnsInHanded {} Try.checked os 3 .any (Rows.exactTellsSpec.pre6 enc Try.prog Try.f3 Rows.exactTellsRow.domain false) (Rows.exactTellsSpec.post enc Try.prog Try.f3 false true false false) := by
  refine returnsInHanded_of_change (C := Try.checked) own started (by kernel_rfl) Try.func3
    (ChangeSpec.witness6 (enc := enc) (C := Try.checked) false ⟨#[], #[.int .i64 0, .int .i64 0, .int .i64 0, .slice none 0 0], []⟩ 8 (by kernel_rfl) (by kernel_rfl) (by kernel_rfl) (by kernel_rfl)) ?_
  intro W base args ds gs before hval hW _ _
  exact contract H enc W base args ds gs before hval hW

theorem over : Rows.exactTellsRow.holds Try.pinned (OpenSpec.ofChange Rows.exactTellsSpec) :=
  OpenClaim.holds_of_wide 3 Try.f3 rfl rfl rfl rfl rfl rfl rfl ⟨rfl, rfl, rfl, rfl, rfl⟩ rfl rfl rfl rfl rfl (by kernel_rfl) Try.func3 (by kernel_rfl)
    (of_decide_eq_true (by kernel_rfl)) (by unfold Func.isWrapper; first | (rw [if_pos (by decide +kernel)]; kernel_rfl) | (rw [if_neg (by decide +kernel)]; exact ⟨rfl, rfl⟩))
    (fun os started H enc _ => lifted os started H enc)

theorem proved : Rows.ExactTellsSaid :=
  over
end Go.Proofs.Ytiaemilmhbgdpaa.exactTells
