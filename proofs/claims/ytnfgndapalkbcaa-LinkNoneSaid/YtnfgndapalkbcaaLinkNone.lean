/-
  Of a nil graph: for every link and every number.
-/
import Derived.Test.YtnfgndapalkbcaaGrL
import Derived.Test.YtnfgndapalkbcaaOpLk
namespace Go.Proofs.Ytnfgndapalkbcaa
open Go Go.RowKit
attribute [local irreducible] run goO leaveK someK nextK nextT nextOT nextOD loopBody loopRest loopK fillJ tmplOf tmplJ mergeT At AtO drawOk ordOf gateOf callC callO topOp topO idxOf appOf storeOf clearOf sliceOf calleeOf calleeO topQ idxQ newRowOf resL stepOp seek
set_option maxRecDepth 100000 in
set_option maxHeartbeats 4000000 in
theorem linkNone_walk (w : World) (x : Lk) (_ : x.ok) (n : Int) (_ : -9223372036854775808 ≤ n ∧ n ≤ 9223372036854775807) : Calls Try.prog 6 #[x.val, .int .i64 n] w fun e w' => e = .returned (.bool true) ∧ Below w.heap.size w w' := by
  refine sim_enter Try.func6 ρ0 [.agg [LI x.kind, LI x.src, LI x.dst], LI n] [] (by kernel_rfl) rfl ?_
  have hR := Rel.start [] w ρ0
  refine sim_run 11 [] (hR.cast (by kernel_rfl)) (by kernel_rfl) trivial (fun ρ100 w100 hm100 hR100 => ?_)
  refine sim_call 9 [] (by kernel_rfl) ?_
  refine Calls.mono (alive18_any _) ?_
  rintro e101 w101 ⟨rfl, hb101⟩
  have hR101 := hR100.below hb101
  refine Back.of (LB true) hR101 rfl ?_
  refine sim_run 4 [] (hR101.cast (by kernel_rfl)) (by kernel_rfl) trivial (fun ρ102 w102 hm102 hR102 => ?_)
  refine sim_call 11 [.v (Value.pointer none), .slc 1 0 1 1] (by kernel_rfl) ?_
  refine Calls.mono (addNil_any _ _ _ _) ?_
  rintro e103 w103 ⟨rfl, hb103⟩
  have hR103 := hR102.below hb103
  refine Back.of (LI 1) hR103 rfl ?_
  refine sim_run 6 [] (hR103.cast (by kernel_rfl)) (by kernel_rfl) trivial (fun ρ104 w104 hm104 hR104 => ?_)
  refine sim_call 19 [.v (Value.pointer none), .slc 2 0 1 1] (by kernel_rfl) ?_
  refine Calls.mono (tryNil_any _ _ _ _) ?_
  rintro e105 w105 ⟨rfl, hb105⟩
  have hR105 := hR104.below hb105
  refine Back.of (LI 1) hR105 rfl ?_
  refine sim_run 4 [] (hR105.cast (by kernel_rfl)) (by kernel_rfl) trivial (fun ρ106 w106 hm106 hR106 => ?_)
  refine sim_call 17 [.v (Value.pointer none)] (by kernel_rfl) ?_
  refine Calls.mono (linksNil_any _) ?_
  rintro e107 w107 ⟨rfl, hb107⟩
  have hR107 := hR106.below hb107
  refine Back.of (.v (Value.slice none 0 0)) hR107 rfl ?_
  refine sim_run 3 [] (hR107.cast (by kernel_rfl)) (by kernel_rfl) trivial (fun ρ108 w108 hm108 hR108 => ?_)
  refine sim_call 12 [.v (Value.pointer none), LI n] (by kernel_rfl) ?_
  refine Calls.mono (aheadNil_any _ _) ?_
  rintro e109 w109 ⟨rfl, hb109⟩
  have hR109 := hR108.below hb109
  refine Back.of (.v (Value.slice none 0 0)) hR109 rfl ?_
  refine sim_run 4 [] (hR109.cast (by kernel_rfl)) (by kernel_rfl) trivial (fun ρ110 w110 hm110 hR110 => ?_)
  refine sim_call 13 [.v (Value.pointer none), LI n] (by kernel_rfl) ?_
  refine Calls.mono (behindNil_any _ _) ?_
  rintro e111 w111 ⟨rfl, hb111⟩
  have hR111 := hR110.below hb111
  refine Back.of (.v (Value.slice none 0 0)) hR111 rfl ?_
  refine sim_run 3 [] (hR111.cast (by kernel_rfl)) (by kernel_rfl) trivial (fun ρ112 w112 hm112 hR112 => ?_)
  refine sim_call 16 [.v (Value.pointer none)] (by kernel_rfl) ?_
  refine Calls.mono (orderNil_any _) ?_
  rintro e113 w113 ⟨rfl, hb113⟩
  have hR113 := hR112.below hb113
  refine Back.of (.v (Value.slice none 0 0)) hR113 rfl ?_
  refine sim_run 7 [] (hR113.cast (by kernel_rfl)) (by kernel_rfl) trivial (fun ρ114 w114 hm114 hR114 => ?_)
  refine sim_call 21 [.v (Value.pointer none), LI n] (by kernel_rfl) ?_
  refine Calls.mono (growNil_any _ _) ?_
  rintro e115 w115 ⟨rfl, hb115⟩
  have hR115 := hR114.below hb115
  refine Back.of (LI 1) hR115 rfl ?_
  refine sim_run 4 [] (hR115.cast (by kernel_rfl)) (by kernel_rfl) trivial (fun ρ116 w116 hm116 hR116 => ?_)
  refine sim_ret (LB true) hR116 (by kernel_rfl) (by kernel_rfl) ?_
  exact ⟨rfl, hR116.toBelow⟩
  
end Go.Proofs.Ytnfgndapalkbcaa
