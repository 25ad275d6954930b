/-
  A transfer takes off the one what it adds to the other; there and back all is as it was: for every two accounts and every two numbers.
-/
import Derived.Test.YtgbgedaedcofcaaPostMoves1
namespace Go.Proofs.Ytgbgedaedcofcaa
open Go Go.RowKit
attribute [local irreducible] run goO leaveK someK nextK nextT nextOT nextOD loopBody loopRest loopK fillJ tmplOf tmplJ mergeT At AtO drawOk ordOf gateOf callC callO topOp topO idxOf appOf storeOf clearOf sliceOf calleeOf calleeO topQ idxQ newRowOf resL stepOp seek
set_option maxRecDepth 100000 in
set_option maxHeartbeats 4000000 in
theorem postMoves_walk (w : World) (a b : ByteArray) (n m : Int) (hn : Is64 n) (hm : Is64 m) : Calls Try.prog 9 #[.string a, .string b, .int .i64 n, .int .i64 m] w fun e w' => e = .returned (.bool true) ∧ Below w.heap.size w w' := by
  unfold Is64 at hn hm
  refine sim_enter Try.func9 ρ0 [LS a, LS b, LI n, LI m] [] (by kernel_rfl) rfl ?_
  have hR := Rel.start [] w ρ0
  refine sim_run 10 [] (hR.cast (by kernel_rfl)) (by kernel_rfl) trivial (fun ρ100 w100 hm100 hR100 => ?_)
  refine sim_fork 15 (decide (n < 0)) (by kernel_rfl) (fun hq101 => ?_) (fun hq101 => ?_)
  have hq101 := of_decide_eq_true hq101
  refine sim_run 30 [] (hR100.cast (by kernel_rfl)) (by kernel_rfl) trivial (fun ρ102 w102 hm102 hR102 => ?_)
  refine sim_call 23 [] (by kernel_rfl) ?_
  refine Calls.mono (alive11_any _) ?_
  rintro e103 w103 ⟨rfl, hb103⟩
  have hR103 := hR102.below hb103
  refine Back.of (LB true) hR103 rfl ?_
  refine sim_run 2 [] (hR103.cast (by kernel_rfl)) (by kernel_rfl) trivial (fun ρ104 w104 hm104 hR104 => ?_)
  refine sim_ret (LB true) hR104 (by kernel_rfl) (by kernel_rfl) ?_
  exact ⟨rfl, hR104.toBelow⟩
  have hq101 := of_decide_eq_false hq101
  refine sim_run 4 [] (hR100.cast (by kernel_rfl)) (by kernel_rfl) trivial (fun ρ105 w105 hm105 hR105 => ?_)
  refine sim_fork 19 (decide (n > 1099511627776)) (by kernel_rfl) (fun hq106 => ?_) (fun hq106 => ?_)
  have hq106 := of_decide_eq_true hq106
  refine sim_run 26 [] (hR105.cast (by kernel_rfl)) (by kernel_rfl) trivial (fun ρ107 w107 hm107 hR107 => ?_)
  refine sim_call 23 [] (by kernel_rfl) ?_
  refine Calls.mono (alive11_any _) ?_
  rintro e108 w108 ⟨rfl, hb108⟩
  have hR108 := hR107.below hb108
  refine Back.of (LB true) hR108 rfl ?_
  refine sim_run 2 [] (hR108.cast (by kernel_rfl)) (by kernel_rfl) trivial (fun ρ109 w109 hm109 hR109 => ?_)
  refine sim_ret (LB true) hR109 (by kernel_rfl) (by kernel_rfl) ?_
  exact ⟨rfl, hR109.toBelow⟩
  have hq106 := of_decide_eq_false hq106
  refine sim_run 4 [] (hR105.cast (by kernel_rfl)) (by kernel_rfl) trivial (fun ρ110 w110 hm110 hR110 => ?_)
  refine sim_fork 23 (decide (m < 0)) (by kernel_rfl) (fun hq111 => ?_) (fun hq111 => ?_)
  have hq111 := of_decide_eq_true hq111
  refine sim_run 22 [] (hR110.cast (by kernel_rfl)) (by kernel_rfl) trivial (fun ρ112 w112 hm112 hR112 => ?_)
  refine sim_call 23 [] (by kernel_rfl) ?_
  refine Calls.mono (alive11_any _) ?_
  rintro e113 w113 ⟨rfl, hb113⟩
  have hR113 := hR112.below hb113
  refine Back.of (LB true) hR113 rfl ?_
  refine sim_run 2 [] (hR113.cast (by kernel_rfl)) (by kernel_rfl) trivial (fun ρ114 w114 hm114 hR114 => ?_)
  refine sim_ret (LB true) hR114 (by kernel_rfl) (by kernel_rfl) ?_
  exact ⟨rfl, hR114.toBelow⟩
  have hq111 := of_decide_eq_false hq111
  refine sim_run 4 [] (hR110.cast (by kernel_rfl)) (by kernel_rfl) trivial (fun ρ115 w115 hm115 hR115 => ?_)
  refine sim_fork 27 (decide (m > 1099511627776)) (by kernel_rfl) (fun hq116 => ?_) (fun hq116 => ?_)
  have hq116 := of_decide_eq_true hq116
  refine sim_run 18 [] (hR115.cast (by kernel_rfl)) (by kernel_rfl) trivial (fun ρ117 w117 hm117 hR117 => ?_)
  refine sim_call 23 [] (by kernel_rfl) ?_
  refine Calls.mono (alive11_any _) ?_
  rintro e118 w118 ⟨rfl, hb118⟩
  have hR118 := hR117.below hb118
  refine Back.of (LB true) hR118 rfl ?_
  refine sim_run 2 [] (hR118.cast (by kernel_rfl)) (by kernel_rfl) trivial (fun ρ119 w119 hm119 hR119 => ?_)
  refine sim_ret (LB true) hR119 (by kernel_rfl) (by kernel_rfl) ?_
  exact ⟨rfl, hR119.toBelow⟩
  have hq116 := of_decide_eq_false hq116
  refine sim_run 5 [] (hR115.cast (by kernel_rfl)) (by kernel_rfl) trivial (fun ρ120 w120 hm120 hR120 => ?_)
  refine sim_fork 32 (decide ((↑a.size : Int) > 100)) (by kernel_rfl) (fun hq121 => ?_) (fun hq121 => ?_)
  have hq121 := of_decide_eq_true hq121
  refine sim_run 13 [] (hR120.cast (by kernel_rfl)) (by kernel_rfl) trivial (fun ρ122 w122 hm122 hR122 => ?_)
  refine sim_call 23 [] (by kernel_rfl) ?_
  refine Calls.mono (alive11_any _) ?_
  rintro e123 w123 ⟨rfl, hb123⟩
  have hR123 := hR122.below hb123
  refine Back.of (LB true) hR123 rfl ?_
  refine sim_run 2 [] (hR123.cast (by kernel_rfl)) (by kernel_rfl) trivial (fun ρ124 w124 hm124 hR124 => ?_)
  refine sim_ret (LB true) hR124 (by kernel_rfl) (by kernel_rfl) ?_
  exact ⟨rfl, hR124.toBelow⟩
  have hq121 := of_decide_eq_false hq121
  refine sim_run 5 [] (hR120.cast (by kernel_rfl)) (by kernel_rfl) trivial (fun ρ125 w125 hm125 hR125 => ?_)
  refine sim_fork 37 (decide ((↑b.size : Int) > 100)) (by kernel_rfl) (fun hq126 => ?_) (fun hq126 => ?_)
  have hq126 := of_decide_eq_true hq126
  refine sim_run 8 [] (hR125.cast (by kernel_rfl)) (by kernel_rfl) trivial (fun ρ127 w127 hm127 hR127 => ?_)
  refine sim_call 23 [] (by kernel_rfl) ?_
  refine Calls.mono (alive11_any _) ?_
  rintro e128 w128 ⟨rfl, hb128⟩
  have hR128 := hR127.below hb128
  refine Back.of (LB true) hR128 rfl ?_
  refine sim_run 2 [] (hR128.cast (by kernel_rfl)) (by kernel_rfl) trivial (fun ρ129 w129 hm129 hR129 => ?_)
  refine sim_ret (LB true) hR129 (by kernel_rfl) (by kernel_rfl) ?_
  exact ⟨rfl, hR129.toBelow⟩
  have hq126 := of_decide_eq_false hq126
  refine sim_run 5 [] (hR125.cast (by kernel_rfl)) (by kernel_rfl) trivial (fun ρ130 w130 hm130 hR130 => ?_)
  refine sim_fork 41 (a.toList == b.toList) (by kernel_rfl) (fun hq131 => ?_) (fun hq131 => ?_)
  have hq131 := ba_eq hq131
  refine sim_run 3 [] (hR130.cast (by kernel_rfl)) (by kernel_rfl) trivial (fun ρ132 w132 hm132 hR132 => ?_)
  refine sim_call 23 [] (by kernel_rfl) ?_
  refine Calls.mono (alive11_any _) ?_
  rintro e133 w133 ⟨rfl, hb133⟩
  have hR133 := hR132.below hb133
  refine Back.of (LB true) hR133 rfl ?_
  refine sim_run 2 [] (hR133.cast (by kernel_rfl)) (by kernel_rfl) trivial (fun ρ134 w134 hm134 hR134 => ?_)
  refine sim_ret (LB true) hR134 (by kernel_rfl) (by kernel_rfl) ?_
  exact ⟨rfl, hR134.toBelow⟩
  have hq131 := ba_ne hq131
  refine sim_run 4 [] (hR130.cast (by kernel_rfl)) (by kernel_rfl) trivial (fun ρ135 w135 hm135 hR135 => ?_)
  refine sim_call 24 [] (by kernel_rfl) ?_
  refine Calls.mono (newLd_any _) ?_
  rintro e136 w136 ⟨gl, g, rfl, hl136, hb136⟩
  have hBw := (hR135).keeps.size
  have hRr136 := (hR135).below hb136
  refine Back.view hl136 (hRr136.cast (by kernel_rfl)) (by kernel_rfl) (fun ρv e0 hR136 hld => ?_)
  have hag := hR136.ag_ 1 (by kernel_rfl)
  refine sim_run 16 [] (hR136.cast (by kernel_rfl)) (by kernel_rfl) trivial (fun ρ137 w137 hm137 hR137 => ?_)
  have hld := hld.moved (hm137.castL (by kernel_rfl))
  have hag := hag.moved (hm137.castL (by kernel_rfl))
  
  refine sim_to (regK Try.f9 5) (tmplJ Try.f9.ntmps 0 [(0, LS a), (1, LS b), (2, LI n), (3, LI m), (9, .ptr 0 0), (10, .ptr 1 0), (11, .ptr 2 0)]) [⟨ptrG g, false⟩, ⟨[LS a, LS ⟨#[88]⟩], true⟩, ⟨[LS b, LS ⟨#[88]⟩], true⟩] (by kernel_rfl) (by kernel_rfl) (by kernel_rfl) (fun d => ?_)
  exact moves_tail ((by assumption : Rel _ _ _ _ _).cast (by kernel_rfl)) (hld.castR (by kernel_rfl)) hBw (by omega) (by omega) (by omega) (by omega) (by assumption) d
end Go.Proofs.Ytgbgedaedcofcaa
