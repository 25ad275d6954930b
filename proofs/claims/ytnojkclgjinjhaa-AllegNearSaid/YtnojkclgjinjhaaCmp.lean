/-
  cmp.Compare at uint64.
-/
import Derived.Test.YtnojkclgjinjhaaCmpI
import Derived.Test.YtnojkclgjinjhaaCmpO
namespace Go.Proofs.Ytnojkclgjinjhaa
open Go Go.RowKit
attribute [local irreducible] run goO leaveK someK nextK nextT nextOT nextOD loopBody loopRest loopK fillJ tmplOf tmplJ mergeT At AtO drawOk ordOf gateOf callC callO topOp topO idxOf appOf storeOf clearOf sliceOf calleeOf calleeO topQ idxQ newRowOf resL stepOp seek

set_option maxRecDepth 100000 in
theorem compareU_any (a b : Int) (w : World) : Calls Try.prog 69 #[.int .u64 a, .int .u64 b] w fun e w' => e = .returned (.int .i64 (cmpZ a b)) ∧ Below w.heap.size w w' := by
  refine sim_enter Try.func69 ρ0 [(.v (.int .u64 a)), (.v (.int .u64 b))] [] (by kernel_rfl) rfl ?_
  refine sim_run 1000 [] (Rel.start [] w ρ0) (by kernel_rfl) trivial (fun ρ1 w1 hm1 hR1 => ?_)
  refine sim_into Try.func84 [(.v (.int .u64 a))] (by kernel_rfl) (by kernel_rfl) ?_
  refine sim_run 1000 [⟨1, 2, LB (a != a), LB false⟩] hR1 (by kernel_rfl) ⟨eqb (by simp), trivial⟩ (fun ρ2 w2 hm2 hR2 => ?_)
  refine sim_out 0 (LB false) hR2 (by kernel_rfl) (by kernel_rfl) (fun n hn => absurd hn (by simp)) (by kernel_rfl) ?_
  refine sim_run 1000 [] hR2 (by kernel_rfl) trivial (fun ρ3 w3 hm3 hR3 => ?_)
  refine sim_into Try.func84 [(.v (.int .u64 b))] (by kernel_rfl) (by kernel_rfl) ?_
  refine sim_run 1000 [⟨1, 2, LB (b != b), LB false⟩] hR3 (by kernel_rfl) ⟨eqb (by simp), trivial⟩ (fun ρ4 w4 hm4 hR4 => ?_)
  refine sim_out 0 (LB false) hR4 (by kernel_rfl) (by kernel_rfl) (fun n hn => absurd hn (by simp)) (by kernel_rfl) ?_
  by_cases h : a < b
  · refine sim_run 1000 [⟨9, 2, LB (decide (a < b)), LB true⟩] hR4 (by kernel_rfl) ⟨eqb (by simpa using h), trivial⟩ (fun ρ5 w5 hm5 hR5 => ?_)
    refine sim_ret (LI (-1)) hR5 (by kernel_rfl) (by kernel_rfl) ⟨by rw [cmpZ_lt h]; rfl, hR5.toBelow⟩
  · by_cases h' : b < a
    · refine sim_run 1000 [⟨9, 2, LB (decide (a < b)), LB false⟩, ⟨11, 2, LB (decide (a > b)), LB true⟩] hR4 (by kernel_rfl) ⟨eqb (by simpa using h), eqb (by simpa using h'), trivial⟩ (fun ρ5 w5 hm5 hR5 => ?_)
      refine sim_ret (LI 1) hR5 (by kernel_rfl) (by kernel_rfl) ⟨by rw [cmpZ_gt h']; rfl, hR5.toBelow⟩
    · refine sim_run 1000 [⟨9, 2, LB (decide (a < b)), LB false⟩, ⟨11, 2, LB (decide (a > b)), LB false⟩] hR4 (by kernel_rfl) ⟨eqb (by simpa using h), eqb (by simpa using h'), trivial⟩ (fun ρ5 w5 hm5 hR5 => ?_)
      refine sim_ret (LI 0) hR5 (by kernel_rfl) (by kernel_rfl) ⟨by rw [cmpZ_eq h h']; rfl, hR5.toBelow⟩
end Go.Proofs.Ytnojkclgjinjhaa
