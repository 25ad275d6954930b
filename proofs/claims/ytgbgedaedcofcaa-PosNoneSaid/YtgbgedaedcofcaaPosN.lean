/-
  pos: the methods of nil positions.
-/
import Derived.Test.YtgbgedaedcofcaaPosG
namespace Go.Proofs.Ytgbgedaedcofcaa
open Go Go.RowKit
attribute [local irreducible] run goO leaveK someK nextK nextT nextOT nextOD loopBody loopRest loopK fillJ tmplOf tmplJ mergeT At AtO drawOk ordOf gateOf callC callO topOp topO idxOf appOf storeOf clearOf sliceOf calleeOf calleeO topQ idxQ newRowOf resL stepOp seek

theorem nadd (k1 k2 : ByteArray) (sub by' : Int) (w : World) : Calls Try.prog 16 #[.pointer none, .agg #[.string k1, .string k2], .int .i64 sub, .int .i64 by'] w fun e w' => e = .returned (.int .i64 1) ∧ Below w.heap.size w w' := by
  refine sim_enter Try.func16 ρ0 [.v (.pointer none), .agg [LS k1, LS k2], LI sub, LI by'] [] (by kernel_rfl) rfl ?_
  have hR := Rel.start [] w ρ0
  refine sim_run 29 [] (hR.cast (by kernel_rfl)) (by kernel_rfl) trivial (fun ρ100 w100 hm100 hR100 => ?_)
  refine sim_ret (LI 1) hR100 (by kernel_rfl) (by kernel_rfl) ?_
  exact ⟨rfl, hR100.toBelow⟩
  
theorem nget (k1 k2 : ByteArray) (w : World) : Calls Try.prog 17 #[.pointer none, .agg #[.string k1, .string k2]] w fun e w' => e = .returned (.agg #[.int .i64 0, .int .i64 0, .int .i64 0]) ∧ Below w.heap.size w w' := by
  refine sim_enter Try.func17 ρ0 [.v (.pointer none), .agg [LS k1, LS k2]] [] (by kernel_rfl) rfl ?_
  have hR := Rel.start [] w ρ0
  refine sim_run 17 [] (hR.cast (by kernel_rfl)) (by kernel_rfl) trivial (fun ρ200 w200 hm200 hR200 => ?_)
  refine sim_ret (.agg [LI 0, LI 0, LI 0]) hR200 (by kernel_rfl) (by kernel_rfl) ?_
  exact ⟨rfl, hR200.toBelow⟩
  
theorem npart (k1 k2 : ByteArray) (sub : Int) (w : World) : Calls Try.prog 19 #[.pointer none, .agg #[.string k1, .string k2], .int .i64 sub] w fun e w' => e = .returned (.int .i64 0) ∧ Below w.heap.size w w' := by
  refine sim_enter Try.func19 ρ0 [.v (.pointer none), .agg [LS k1, LS k2], LI sub] [] (by kernel_rfl) rfl ?_
  have hR := Rel.start [] w ρ0
  refine sim_run 21 [] (hR.cast (by kernel_rfl)) (by kernel_rfl) trivial (fun ρ300 w300 hm300 hR300 => ?_)
  refine sim_ret (LI 0) hR300 (by kernel_rfl) (by kernel_rfl) ?_
  exact ⟨rfl, hR300.toBelow⟩
  
theorem nwhole (k1 k2 : ByteArray) (w : World) : Calls Try.prog 22 #[.pointer none, .agg #[.string k1, .string k2]] w fun e w' => e = .returned (.int .i64 0) ∧ Below w.heap.size w w' := by
  refine sim_enter Try.func22 ρ0 [.v (.pointer none), .agg [LS k1, LS k2]] [] (by kernel_rfl) rfl ?_
  have hR := Rel.start [] w ρ0
  refine sim_run 16 [] (hR.cast (by kernel_rfl)) (by kernel_rfl) trivial (fun ρ400 w400 hm400 hR400 => ?_)
  refine sim_ret (LI 0) hR400 (by kernel_rfl) (by kernel_rfl) ?_
  exact ⟨rfl, hR400.toBelow⟩
  
theorem nkeys (A : Option Addr) (n cp : Nat) (w : World) : Calls Try.prog 18 #[.pointer none, .slice A n cp] w fun e w' => e = .returned (.slice none 0 0) ∧ Below w.heap.size w w' := by
  refine sim_enter Try.func18 ρ0 [.v (.pointer none), .v (.slice A n cp)] [] (by kernel_rfl) rfl ?_
  have hR := Rel.start [] w ρ0
  refine sim_run 15 [] (hR.cast (by kernel_rfl)) (by kernel_rfl) trivial (fun ρ500 w500 hm500 hR500 => ?_)
  refine sim_ret (.v (Value.slice none 0 0)) hR500 (by kernel_rfl) (by kernel_rfl) ?_
  exact ⟨rfl, hR500.toBelow⟩
  
set_option maxRecDepth 100000 in
set_option maxHeartbeats 4000000 in
theorem ntotal (s : ByteArray) (w : World) : Calls Try.prog 21 #[.pointer none, .string s] w fun e w' => e = .returned (.int .i64 0) ∧ Below w.heap.size w w' := by
  refine sim_enter Try.func21 ρ0 [.v (.pointer none), LS s] [] (by kernel_rfl) rfl ?_
  have hR := Rel.start [] w ρ0
  refine sim_run 14 [] (hR.cast (by kernel_rfl)) (by kernel_rfl) trivial (fun ρ600 w600 hm600 hR600 => ?_)
  refine sim_into Try.func18 [.v (Value.pointer none), .slc 0 0 1 1] (by kernel_rfl) (by kernel_rfl) ?_
  have hag601 := hR600.ag_ 1 (by kernel_rfl)
  refine sim_run 15 [] (hR600.cast (by kernel_rfl)) (by kernel_rfl) trivial (fun ρ602 w602 hm602 hR602 => ?_)
  have hag601 := hag601.moved (hm602.castL (by kernel_rfl))
  refine sim_out 1 (.v (Value.slice none 0 0)) hR602 (by kernel_rfl) (by kernel_rfl) hag601.ag (by kernel_rfl) ?_
  refine sim_run 4 [] (hR602.cast (by kernel_rfl)) (by kernel_rfl) trivial (fun ρ603 w603 hm603 hR603 => ?_)
  have hag601 := hag601.moved (hm603.castL (by kernel_rfl))
  refine sim_unroll 3 (by kernel_rfl) ?_
  refine sim_run 15 [] (hR603.cast (by kernel_rfl)) (by kernel_rfl) trivial (fun ρ604 w604 hm604 hR604 => ?_)
  have hag601 := hag601.moved (hm604.castL (by kernel_rfl))
  
  refine sim_call 41 [.ptr 1 0, .v (.slice none 0 0)] (by kernel_rfl) ?_
  refine (accAdd_any _ _ false none 0 0 [] _ ((hR604).at_cell 1 0 (LB false) (by kernel_rfl)) ((hR604).unfrozen (q := 1) (r := ⟨[LB false], true⟩) (by kernel_rfl) rfl (by show 0 < 1; omega)) 0 ⟨rfl, fun h => absurd h (by omega)⟩ (by intro x hx; cases hx) (by omega)).mono ?_
  rintro e w5 ⟨rfl, ho⟩
  have hR5 := (hR604).orAt (q := 1) (x := false) (by kernel_rfl) ho
  refine Back.of (LI (clampV (sumI []))) hR5 rfl ?_
  refine sim_run 2 [] (hR5.cast (by kernel_rfl)) (by kernel_rfl) trivial (fun ρ700 w700 hm700 hR700 => ?_)
  have hag601 := hag601.moved (hm700.castL (by kernel_rfl))
  refine sim_ret (LI 0) hR700 (by kernel_rfl) (by kernel_rfl) ?_
  exact ⟨rfl, hR700.toBelow⟩
  
end Go.Proofs.Ytgbgedaedcofcaa
