/-
  Of nil positions every call is refused or tells nought: for every change.
-/
import Derived.Test.YtgbgedaedcofcaaPosH
import Derived.Test.YtgbgedaedcofcaaPosN
import Derived.Test.YtgbgedaedcofcaaOpP
namespace Go.Proofs.Ytgbgedaedcofcaa
open Go Go.RowKit
attribute [local irreducible] run goO leaveK someK nextK nextT nextOT nextOD loopBody loopRest loopK fillJ tmplOf tmplJ mergeT At AtO drawOk ordOf gateOf callC callO topOp topO idxOf appOf storeOf clearOf sliceOf calleeOf calleeO topQ idxQ newRowOf resL stepOp seek

set_option maxRecDepth 100000 in
set_option maxHeartbeats 4000000 in
theorem posNone_walk (w : World) (o : OpP) : Calls Try.prog 5 #[o.val] w fun e w' => e = .returned (.bool true) ∧ Below w.heap.size w w' := by
  refine sim_enter Try.func5 ρ0 [.agg (o.cells.map .v)] [] (by kernel_rfl) (by simp only [denL, LV.den, denL_v]; rfl) ?_
  have hR := Rel.start [] w ρ0
  refine sim_run 10 [] (hR.cast (by kernel_rfl)) (by kernel_rfl) trivial (fun ρ100 w100 hm100 hR100 => ?_)
  refine sim_draw [] (by kernel_rfl) (by kernel_rfl) hR100 (fun hR101 => ?_)
  refine sim_ord_call (T := []) (w0 := w) 15 [] (by kernel_rfl) ?_
  refine Calls.mono (alive10_any _) ?_
  rintro e102 w102 ⟨rfl, hb102⟩
  have hR102 := hR101.call hb102 (LB true)
  refine BackO.of (LB true) hR102 rfl ?_
  refine sim_ordN 8 [] hR102 (by kernel_rfl) trivial (fun ρ103 w103 hm103 hR103 => ?_)
  refine sim_ord_call (T := []) (w0 := w) 16 [.v (Value.pointer none), .agg [LS o.acc, LS o.asset], LI o.sub, LI o.amt] (by kernel_rfl) ?_
  refine Calls.mono (nadd _ _ _ _ _) ?_
  rintro e104 w104 ⟨rfl, hb104⟩
  have hR104 := hR103.call hb104 (LI 1)
  refine BackO.of (LI 1) hR104 rfl ?_
  refine sim_ordN 7 [] hR104 (by kernel_rfl) trivial (fun ρ105 w105 hm105 hR105 => ?_)
  refine sim_ord_call (T := []) (w0 := w) 17 [.v (Value.pointer none), .agg [LS o.acc, LS o.asset]] (by kernel_rfl) ?_
  refine Calls.mono (nget _ _ _) ?_
  rintro e106 w106 ⟨rfl, hb106⟩
  have hR106 := hR105.call hb106 (.agg [LI 0, LI 0, LI 0])
  refine BackO.of (.agg [LI 0, LI 0, LI 0]) hR106 rfl ?_
  refine sim_ordN 13 [] hR106 (by kernel_rfl) trivial (fun ρ107 w107 hm107 hR107 => ?_)
  refine sim_ord_call (T := []) (w0 := w) 19 [.v (Value.pointer none), .agg [LS o.acc, LS o.asset], LI o.sub] (by kernel_rfl) ?_
  refine Calls.mono (npart _ _ _ _) ?_
  rintro e108 w108 ⟨rfl, hb108⟩
  have hR108 := hR107.call hb108 (LI 0)
  refine BackO.of (LI 0) hR108 rfl ?_
  refine sim_ord_call (T := []) (w0 := w) 21 [.v (Value.pointer none), LS (ByteArray.mk #[88])] (by kernel_rfl) ?_
  refine Calls.mono (ntotal _ _) ?_
  rintro e109 w109 ⟨rfl, hb109⟩
  have hR109 := hR108.call hb109 (LI 0)
  refine BackO.of (LI 0) hR109 rfl ?_
  refine sim_ordN 1 [] hR109 (by kernel_rfl) trivial (fun ρ110 w110 hm110 hR110 => ?_)
  refine sim_ord_call (T := []) (w0 := w) 22 [.v (Value.pointer none), .agg [LS o.acc, LS o.asset]] (by kernel_rfl) ?_
  refine Calls.mono (nwhole _ _ _) ?_
  rintro e111 w111 ⟨rfl, hb111⟩
  have hR111 := hR110.call hb111 (LI 0)
  refine BackO.of (LI 0) hR111 rfl ?_
  refine sim_ordN 1 [] hR111 (by kernel_rfl) trivial (fun ρ112 w112 hm112 hR112 => ?_)
  refine sim_ord_call (T := []) (w0 := w) 18 [.v (Value.pointer none), .v (Value.slice none 0 0)] (by kernel_rfl) ?_
  refine Calls.mono (nkeys _ _ _ _) ?_
  rintro e113 w113 ⟨rfl, hb113⟩
  have hR113 := hR112.call hb113 (.v (Value.slice none 0 0))
  refine BackO.of (.v (Value.slice none 0 0)) hR113 rfl ?_
  refine sim_ordN 5 [] hR113 (by kernel_rfl) trivial (fun ρ114 w114 hm114 hR114 => ?_)
  refine sim_ord_endR hR114 (by kernel_rfl) (fun hR115 => ?_)
  refine sim_ret (LB true) hR115 (by kernel_rfl) (by kernel_rfl) ?_
  exact ⟨rfl, hR115.toBelow⟩
  
end Go.Proofs.Ytgbgedaedcofcaa
