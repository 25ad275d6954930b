/-
  PosNone: of nil positions every call is refused or tells nought; the row's step.
-/
import Derived.Test.YtgbgedaedcofcaaPosNone
import Derived.Test.YtgbgedaedcofcaaOpenB
import Derived.Test.YtgbgedaedcofcaaRows
namespace Go.Proofs.Ytgbgedaedcofcaa
open Go.ChangeShapes Go.WideShapes Go.ChangeAt Go.RowKit


/-! ### THE ROW's STEP -/
theorem posNone_own : ownKnob Try.prog.godebug = none := by kernel_rfl
theorem posNone_laidOut : laidOutB Try.prog = true := by kernel_rfl
set_option maxRecDepth 100000 in
theorem posNone_lifted (os : Os) (started : os.Started) (H : Type) (enc : TypeId × Value → H) :
    ReturnsInHanded {} Try.checked os 5 .any (Rows.posNoneSpec.pre6 enc Try.prog Try.f5 Rows.posNoneRow.domain false) (Rows.posNoneSpec.post enc Try.prog Try.f5 false true false false) := by
  refine returnsInHanded_of_change (C := Try.checked) posNone_own started (by kernel_rfl) Try.func5
    (ChangeSpec.witness6 (enc := enc) (C := Try.checked) false ⟨#[], #[.agg #[.string ⟨#[]⟩, .string ⟨#[]⟩, .int .i64 0, .int .i64 0]], []⟩ 8 (by kernel_rfl) (by kernel_rfl) (by kernel_rfl) (by kernel_rfl)) ?_
  intro W base args ds gs before hval0 hW hcnd _
  have hval : ∀ (j : Nat) t v, Try.f5.params[j]? = some t → args[j]? = some v → Value.okWide Try.prog W .any base t v := hval0
  have hW' := hW
  obtain ⟨p, q, hA0, hV, rfl, hfz, hnd⟩ := hW
  have hA : DataW.TrodAll enc Try.prog W 0 (fun _ => true) true Try.f5.params.toList args.toList ds p := hA0
  rw [Try.params5] at hA hval
  obtain ⟨v0, vs0, d0, ds0, p0, q0, hargs, rfl, rfl, h0, r_0⟩ := trodAll_cons hA
  obtain ⟨rfl, rfl, rfl⟩ := trodAll_nil r_0
  obtain rfl : args = #[v0] := by cases args; simp_all
  obtain ⟨x0, rfl, _⟩ := open_op (hval 0 26 v0 rfl rfl) h0
  clear hA0 hval0
  refine (posNone_walk W x0).mono fun e W' ⟨he, bel⟩ => ?_
  subst he
  exact ⟨_, rfl, post_true posNone_laidOut (by kernel_rfl) rfl Try.underlying4 rfl hW' (by
    intro es he
    match es, he with
    | [e0], _ => rfl) bel⟩

theorem posNone_over : Rows.posNoneRow.holds Try.pinned (OpenSpec.ofChange Rows.posNoneSpec) :=
  OpenClaim.holds_of_wide 5 Try.f5 rfl rfl rfl rfl rfl rfl rfl ⟨rfl, rfl, rfl, rfl, rfl⟩ rfl rfl rfl rfl rfl (by kernel_rfl) Try.func5 (by kernel_rfl)
    (of_decide_eq_true (by kernel_rfl)) (by unfold Func.isWrapper; first | (rw [if_pos (by decide +kernel)]; kernel_rfl) | (rw [if_neg (by decide +kernel)]; exact ⟨rfl, rfl⟩))
    (fun os started H enc _ => posNone_lifted os started H enc)

theorem posNone_holds : Rows.PosNoneSaid := posNone_over
end Go.Proofs.Ytgbgedaedcofcaa
