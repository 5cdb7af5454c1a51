/- CallNeeds holds of the given program: for all arguments the law's code returns true. There are no conditions beyond the given statement's own. -/
import Derived.Test.YtbdbjamebjbhnaaPO38
import Derived.Test.YtbdbjamebjbhnaaLEntry
import Derived.Test.YtbdbjamebjbhnaaLSize
import Derived.Test.YtbdbjamebjbhnaaRows
set_option linter.all false
namespace Go.Proofs.Ytbdbjamebjbhnaa.callNeeds
open Go.ChangeShapes Go.WideShapes Go.ChangeAt Go.RowKit Go.Lift
set_option linter.unusedVariables false

theorem own : ownKnob Try.prog.godebug = none := by kernel_rfl
theorem laidOut : laidOutB Try.prog = true := by kernel_rfl

theorem contract (H : Type) (enc : TypeId × Value → H) (W : World) (base : Nat) (args : Array Value) (ds gs : List (DataW H)) (before : List MemPlace)
    (hval : ∀ (j : Nat) t v, Try.f7.params[j]? = some t → args[j]? = some v → Value.okWide Try.prog W .any base t v)
    (hW : DataW.Whole enc Try.prog Try.f7.params.toList Rows.callNeedsSpec.vars false W args.toList ds gs before)
    (hwt : (DataW.weightsEach Try.prog (Try.f7.params.toList ++ Rows.callNeedsSpec.plain.varTypes Try.prog) (ds ++ gs)).all (· ≤ reachBytes) = true) :
    Calls Try.prog 7 args W fun e W' => ∃ v, e = .returned v ∧ Rows.callNeedsSpec.post enc Try.prog Try.f7 false true false false W args v W' := by
  have hW' := hW
  obtain ⟨p, q, hA0, hV, rfl, hfz, hnd⟩ := hW
  have hA : DataW.TrodAll enc Try.prog W 0 (fun _ => true) true Try.f7.params.toList args.toList ds p := hA0
  rw [Try.params7] at hA hval hwt
  obtain ⟨v0, vs0, d0, ds0, p0, q0, hargs, rfl, rfl, h0, r0⟩ := trodAll_cons hA
  obtain ⟨v1, vs1, d1, ds1, p1, q1, rfl, rfl, rfl, h1, r1⟩ := trodAll_cons r0
  obtain ⟨v2, vs2, d2, ds2, p2, q2, rfl, rfl, rfl, h2, r2⟩ := trodAll_cons r1
  obtain ⟨v3, vs3, d3, ds3, p3, q3, rfl, rfl, rfl, h3, r3⟩ := trodAll_cons r2
  obtain ⟨v4, vs4, d4, ds4, p4, q4, rfl, rfl, rfl, h4, r4⟩ := trodAll_cons r3
  obtain ⟨rfl, rfl, rfl⟩ := trodAll_nil r4
  obtain rfl : args = #[v0, v1, v2, v3, v4] := by cases args; simp_all
  obtain ⟨x0, k0, o0⟩ := arg_rep (S38.ctx0.ty 31 _ rfl) rfl (hval 0 _ v0 rfl rfl) h0
  obtain ⟨x1, k1, o1⟩ := arg_rep (S38.ctx0.ty 32 _ rfl) rfl (hval 1 _ v1 rfl rfl) h1
  obtain ⟨x2, k2, o2⟩ := arg_rep (S38.ctx0.ty 29 _ rfl) rfl (hval 2 _ v2 rfl rfl) h2
  obtain ⟨x3, k3, o3⟩ := arg_rep (S38.ctx0.ty 34 _ rfl) rfl (hval 3 _ v3 rfl rfl) h3
  obtain ⟨x4, k4, o4⟩ := arg_rep (S38.ctx0.ty 3 _ rfl) rfl (hval 4 _ v4 rfl rfl) h4
  have hsz := slice_size (E := 60) (show Try.prog.underlying 34 = some (.slice 60) by kernel_rfl) k3 h3 (weights_get _ _ hwt 3 34 d3 rfl rfl)
  rw [show Try.prog.bytesOf 60 = 16 by kernel_rfl] at hsz
  refine (law_calls (X := S38.needs x0 x1 x2 x3 x4) S38.needs_sound Try.func7 (by kernel_rfl) (c := Try.f7.body.getD .skip) (by kernel_rfl) (args := [.d S38.t_api_Basin x0, .d (.slice 0 S38.t_api_Right) x1, .d (.slice 0 (.int .i64)) x2, .d (.slice 0 S38.t_api_Excuse) x3, .d (.int .i64) x4]) (vals := [v0, v1, v2, v3, v4]) ⟨k0, k1, k2, k3, k4, trivial⟩ (S38.needs_true x0 x1 x2 x3 x4 (fun x hx => Ar.InR_of (o2.2 x hx)) hsz) (by kernel_rfl)).mono fun e W' he => ?_
  obtain ⟨rfl, hb⟩ := he
  refine ⟨_, rfl, law_post (B := 4) laidOut hW' rfl (fun hg => ?_) rfl (by kernel_rfl) (by kernel_rfl) hb⟩
  subst hg; rfl

set_option maxRecDepth 100000 in
theorem lifted (os : Os) (started : os.Started) (H : Type) (enc : TypeId × Value → H) :
    ReturnsInHanded {} Try.checked os 7 .any (Rows.callNeedsSpec.pre6 enc Try.prog Try.f7 Rows.callNeedsRow.domain false) (Rows.callNeedsSpec.post enc Try.prog Try.f7 false true false false) := by
  refine returns_sized (C := Try.checked) own started (by kernel_rfl) Try.func7
    (ChangeSpec.witness6 (enc := enc) (C := Try.checked) false ⟨#[], #[.agg #[.string ⟨#[]⟩, .slice none 0 0, .int .i64 0, .slice none 0 0, .slice none 0 0, .slice none 0 0, .slice none 0 0, .slice none 0 0, .slice none 0 0, .slice none 0 0, .int .i64 0], .slice none 0 0, .slice none 0 0, .slice none 0 0, .int .i64 0], []⟩ 8 (by kernel_rfl) (by kernel_rfl) (by kernel_rfl) (by kernel_rfl)) ?_
  intro W base args ds gs before hval hW hwt _
  exact contract H enc W base args ds gs before hval hW hwt

theorem over : Rows.callNeedsRow.holds Try.pinned (OpenSpec.ofChange Rows.callNeedsSpec) :=
  OpenClaim.holds_of_wide 7 Try.f7 rfl rfl rfl rfl rfl rfl rfl ⟨rfl, rfl, rfl, rfl, rfl⟩ rfl rfl rfl rfl rfl (by kernel_rfl) Try.func7 (by kernel_rfl)
    (of_decide_eq_true (by kernel_rfl)) (by unfold Func.isWrapper; first | (rw [if_pos (by decide +kernel)]; kernel_rfl) | (rw [if_neg (by decide +kernel)]; exact ⟨rfl, rfl⟩))
    (fun os started H enc _ => lifted os started H enc)

theorem proved : Rows.CallNeedsSaid :=
  over
end Go.Proofs.Ytbdbjamebjbhnaa.callNeeds
