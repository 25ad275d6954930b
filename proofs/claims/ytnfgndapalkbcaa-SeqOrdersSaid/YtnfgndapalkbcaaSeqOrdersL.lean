/-
  SeqOrders: a rank is ahead of another one or the other way, or they are the same; sorting keeps each instruction, and puts none behind a later one; the row's step.
-/
import Derived.Test.YtnfgndapalkbcaaSeqOrd
import Derived.Test.YtnfgndapalkbcaaOpenI
import Derived.Test.YtnfgndapalkbcaaOpenK
import Derived.Test.YtnfgndapalkbcaaRows
namespace Go.Proofs.Ytnfgndapalkbcaa
open Go.ChangeShapes Go.WideShapes Go.ChangeAt Go.RowKit

/-! ### THE ROW's STEP -/
theorem seqOrders_own : ownKnob Try.prog.godebug = none := by kernel_rfl
theorem seqOrders_laidOut : laidOutB Try.prog = true := by kernel_rfl
set_option maxRecDepth 100000 in
theorem seqOrders_lifted (os : Os) (started : os.Started) (H : Type) (enc : TypeId × Value → H) :
    ReturnsInHanded {} Try.checked os 7 .any (Rows.seqOrdersSpec.pre6 enc Try.prog Try.f7 Rows.seqOrdersRow.domain false) (Rows.seqOrdersSpec.post enc Try.prog Try.f7 false true false false) := by
  refine returnsInHanded_of_change (C := Try.checked) seqOrders_own started (by kernel_rfl) Try.func7
    (ChangeSpec.witness6 (enc := enc) (C := Try.checked) false ⟨#[], #[.agg #[.int .i64 0, .int .i64 0, .int .i64 0], .agg #[.int .i64 0, .int .i64 0, .int .i64 0], .agg #[.int .i64 0, .int .i64 0, .int .i64 0], .slice none 0 0], []⟩ 8 (by kernel_rfl) (by kernel_rfl) (by kernel_rfl) (by kernel_rfl)) ?_
  intro W base args ds gs before hval0 hW hcnd _
  have hval : ∀ (j : Nat) t v, Try.f7.params[j]? = some t → args[j]? = some v → Value.okWide Try.prog W .any base t v := hval0
  have hW' := hW
  obtain ⟨p, q, hA0, hV, rfl, hfz, hnd⟩ := hW
  have hA : DataW.TrodAll enc Try.prog W 0 (fun _ => true) true Try.f7.params.toList args.toList ds p := hA0
  rw [Try.params7] at hA hval
  obtain ⟨v0, vs0, d0, ds0, p0, q0, hargs, rfl, rfl, h0, r_0⟩ := trodAll_cons hA
  obtain ⟨v1, vs1, d1, ds1, p1, q1, rfl, rfl, rfl, h1, r_1⟩ := trodAll_cons r_0
  obtain ⟨v2, vs2, d2, ds2, p2, q2, rfl, rfl, rfl, h2, r_2⟩ := trodAll_cons r_1
  obtain ⟨v3, vs3, d3, ds3, p3, q3, rfl, rfl, rfl, h3, r_3⟩ := trodAll_cons r_2
  obtain ⟨rfl, rfl, rfl⟩ := trodAll_nil r_3
  obtain rfl : args = #[v0, v1, v2, v3] := by cases args; simp_all
  obtain ⟨x0, rfl⟩ := open_rk (hval 0 47 v0 rfl rfl) h0
  obtain ⟨x1, rfl⟩ := open_rk (hval 1 47 v1 rfl rfl) h1
  obtain ⟨x2, rfl⟩ := open_rk (hval 2 47 v2 rfl rfl) h2
  obtain ⟨A3, n3, c3, xs3, rfl, r3, l3, m3, o3, z3⟩ := open_slice_insts Try.underlying48 (hval 3 48 v3 rfl rfl) h3
  clear hA0 hval0
  refine (seqOrders_walk W x0 x1 x2 A3 n3 c3 xs3 r3 o3 z3).mono fun e W' ⟨he, bel⟩ => ?_
  subst he
  exact ⟨_, rfl, post_true seqOrders_laidOut (by kernel_rfl) rfl Try.underlying4 rfl hW' (by
    intro es he
    match es, he with
    | [e0, e1, e2, e3], _ => rfl) bel⟩

theorem seqOrders_over : Rows.seqOrdersRow.holds Try.pinned (OpenSpec.ofChange Rows.seqOrdersSpec) :=
  OpenClaim.holds_of_wide 7 Try.f7 rfl rfl rfl rfl rfl rfl rfl ⟨rfl, rfl, rfl, rfl, rfl⟩ rfl rfl rfl rfl rfl (by kernel_rfl) Try.func7 (by kernel_rfl)
    (of_decide_eq_true (by kernel_rfl)) (by unfold Func.isWrapper; first | (rw [if_pos (by decide +kernel)]; kernel_rfl) | (rw [if_neg (by decide +kernel)]; exact ⟨rfl, rfl⟩))
    (fun os started H enc _ => seqOrders_lifted os started H enc)

theorem seqOrders_holds : Rows.SeqOrdersSaid := seqOrders_over
end Go.Proofs.Ytnfgndapalkbcaa
