/-
  CreditAdds: what a party owes is what it took less what it paid back; what is pledged comes back wholly; the row's step.
-/
import Derived.Test.YtioehmngkoffaaaCrAd
import Derived.Test.YtioehmngkoffaaaOpenB
import Derived.Test.YtioehmngkoffaaaRows
namespace Go.Proofs.Ytioehmngkoffaaa
open Go.ChangeShapes Go.WideShapes Go.ChangeAt Go.RowKit

/-! ### THE ROW's STEP -/
theorem creditAdds_own : ownKnob Try.prog.godebug = none := by kernel_rfl
theorem creditAdds_laidOut : laidOutB Try.prog = true := by kernel_rfl
set_option maxRecDepth 100000 in
theorem creditAdds_lifted (os : Os) (started : os.Started) (H : Type) (enc : TypeId × Value → H) :
    ReturnsInHanded {} Try.checked os 5 .any (Rows.creditAddsSpec.pre6 enc Try.prog Try.f5 Rows.creditAddsRow.domain false) (Rows.creditAddsSpec.post enc Try.prog Try.f5 false true false false) := by
  refine returnsInHanded_of_change (C := Try.checked) creditAdds_own started (by kernel_rfl) Try.func5
    (ChangeSpec.witness6 (enc := enc) (C := Try.checked) false ⟨#[], #[.slice none 0 0], []⟩ 8 (by kernel_rfl) (by kernel_rfl) (by kernel_rfl) (by kernel_rfl)) ?_
  intro W base args ds gs before hval0 hW hcnd _
  have hval : ∀ (j : Nat) t v, Try.f5.params[j]? = some t → args[j]? = some v → Value.okWide Try.prog W .any base t v := hval0
  have hW' := hW
  obtain ⟨p, q, hA0, hV, rfl, hfz, hnd⟩ := hW
  have hA : DataW.TrodAll enc Try.prog W 0 (fun _ => true) true Try.f5.params.toList args.toList ds p := hA0
  rw [Try.params5] at hA hval
  obtain ⟨v0, vs0, d0, ds0, p0, q0, hargs, rfl, rfl, h0, r_0⟩ := trodAll_cons hA
  obtain ⟨rfl, rfl, rfl⟩ := trodAll_nil r_0
  obtain rfl : args = #[v0] := by cases args; simp_all
  obtain ⟨A0, n0, c0, os0, rfl, k0⟩ := open_opCs (M := maxLen) (hval 0 22 v0 rfl rfl) h0 (.inl (Nat.le_refl _))
  clear hA0 hval0
  refine (creditAdds_walk W A0 n0 c0 os0 k0).mono fun e W' ⟨he, bel⟩ => ?_
  subst he
  exact ⟨_, rfl, post_true creditAdds_laidOut (by kernel_rfl) rfl Try.underlying4 rfl hW' (by
    intro es he
    match es, he with
    | [e0], _ => rfl) bel⟩

theorem creditAdds_over : Rows.creditAddsRow.holds Try.pinned (OpenSpec.ofChange Rows.creditAddsSpec) :=
  OpenClaim.holds_of_wide 5 Try.f5 rfl rfl rfl rfl rfl rfl rfl ⟨rfl, rfl, rfl, rfl, rfl⟩ rfl rfl rfl rfl rfl (by kernel_rfl) Try.func5 (by kernel_rfl)
    (of_decide_eq_true (by kernel_rfl)) (by unfold Func.isWrapper; first | (rw [if_pos (by decide +kernel)]; kernel_rfl) | (rw [if_neg (by decide +kernel)]; exact ⟨rfl, rfl⟩))
    (fun os started H enc _ => creditAdds_lifted os started H enc)

theorem creditAdds_holds : Rows.CreditAddsSaid := creditAdds_over
end Go.Proofs.Ytioehmngkoffaaa
