/-
  cmp.Compare at int.
-/
import Derived.Test.YtnfgndapalkbcaaSimHN
import Derived.Test.YtnfgndapalkbcaaProg
import Derived.IntWalk
namespace Go.Proofs.Ytnfgndapalkbcaa
open Go Go.RowKit
attribute [local irreducible] run goO goN ordGoN eqlOf eqlOper eqlOfO cellL leaveK someK nextK nextT nextOT nextOD loopBody loopRest loopK fillJ tmplOf tmplJ mergeT At AtO drawOk ordOf gateOf callC callO topOp topO idxOf appOf storeOf clearOf sliceOf calleeOf calleeO topQ idxQ newRowOf resL stepOp seek

def cmpZ (a b : Int) : Int := if a < b then -1 else if b < a then 1 else 0
theorem cmpZ_lt {a b : Int} (h : a < b) : cmpZ a b = -1 := if_pos h
theorem cmpZ_gt {a b : Int} (h : b < a) : cmpZ a b = 1 := by unfold cmpZ; rw [if_neg (by omega), if_pos h]
theorem cmpZ_eq {a b : Int} (h : ¬ a < b) (h' : ¬ b < a) : cmpZ a b = 0 := by unfold cmpZ; rw [if_neg h, if_neg h']

set_option maxRecDepth 100000 in
theorem compare_any (a b : Int) (w : World) : Calls Try.prog 64 #[.int .i64 a, .int .i64 b] w fun e w' => e = .returned (.int .i64 (cmpZ a b)) ∧ Below w.heap.size w w' := by
  refine sim_enter Try.func64 ρ0 [(.v (.int .i64 a)), (.v (.int .i64 b))] [] (by kernel_rfl) rfl ?_
  refine sim_run 1000 [] (Rel.start [] w ρ0) (by kernel_rfl) trivial (fun ρ1 w1 hm1 hR1 => ?_)
  refine sim_into Try.func74 [(.v (.int .i64 a))] (by kernel_rfl) (by kernel_rfl) ?_
  refine sim_run 1000 [⟨1, 2, LB (a != a), LB false⟩] hR1 (by kernel_rfl) ⟨eqb (by simp), trivial⟩ (fun ρ2 w2 hm2 hR2 => ?_)
  refine sim_out 0 (LB false) hR2 (by kernel_rfl) (by kernel_rfl) (fun n hn => absurd hn (by simp)) (by kernel_rfl) ?_
  refine sim_run 1000 [] hR2 (by kernel_rfl) trivial (fun ρ3 w3 hm3 hR3 => ?_)
  refine sim_into Try.func74 [(.v (.int .i64 b))] (by kernel_rfl) (by kernel_rfl) ?_
  refine sim_run 1000 [⟨1, 2, LB (b != b), LB false⟩] hR3 (by kernel_rfl) ⟨eqb (by simp), trivial⟩ (fun ρ4 w4 hm4 hR4 => ?_)
  refine sim_out 0 (LB false) hR4 (by kernel_rfl) (by kernel_rfl) (fun n hn => absurd hn (by simp)) (by kernel_rfl) ?_
  by_cases h : a < b
  · refine sim_run 1000 [⟨9, 2, LB (decide (a < b)), LB true⟩] hR4 (by kernel_rfl) ⟨eqb (by simpa using h), trivial⟩ (fun ρ5 w5 hm5 hR5 => ?_)
    refine sim_ret (LI (-1)) hR5 (by kernel_rfl) (by kernel_rfl) ⟨by rw [cmpZ_lt h]; rfl, hR5.toBelow⟩
  · by_cases h' : b < a
    · refine sim_run 1000 [⟨9, 2, LB (decide (a < b)), LB false⟩, ⟨11, 2, LB (decide (a > b)), LB true⟩] hR4 (by kernel_rfl) ⟨eqb (by simpa using h), eqb (by simpa using h'), trivial⟩ (fun ρ5 w5 hm5 hR5 => ?_)
      refine sim_ret (LI 1) hR5 (by kernel_rfl) (by kernel_rfl) ⟨by rw [cmpZ_gt h']; rfl, hR5.toBelow⟩
    · refine sim_run 1000 [⟨9, 2, LB (decide (a < b)), LB false⟩, ⟨11, 2, LB (decide (a > b)), LB false⟩] hR4 (by kernel_rfl) ⟨eqb (by simpa using h), eqb (by simpa using h'), trivial⟩ (fun ρ5 w5 hm5 hR5 => ?_)
      refine sim_ret (LI 0) hR5 (by kernel_rfl) (by kernel_rfl) ⟨by rw [cmpZ_eq h h']; rfl, hR5.toBelow⟩
end Go.Proofs.Ytnfgndapalkbcaa
