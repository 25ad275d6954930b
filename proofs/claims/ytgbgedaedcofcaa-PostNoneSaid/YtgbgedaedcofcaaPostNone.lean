/-
  Of a nil and of a zero ledger every call is refused or tells nought: for every step.
-/
import Derived.Test.YtgbgedaedcofcaaPostZ
namespace Go.Proofs.Ytgbgedaedcofcaa
open Go Go.RowKit
attribute [local irreducible] run goO leaveK someK nextK nextT nextOT nextOD loopBody loopRest loopK fillJ tmplOf tmplJ mergeT At AtO drawOk ordOf gateOf callC callO topOp topO idxOf appOf storeOf clearOf sliceOf calleeOf calleeO topQ idxQ newRowOf resL stepOp seek
set_option maxRecDepth 100000 in
set_option maxHeartbeats 4000000 in
theorem postNone_walk (w : World) (M : Nat) (o : OpL) (ho : o.ok w M) : Calls Try.prog 13 #[o.val] w fun e w' => e = .returned (.bool true) ∧ Below w.heap.size w w' := by
  have hmax := ho.ps.max
  unfold maxLen at hmax
  refine sim_enter Try.func13 ρ0 [.agg (o.cells.map .v)] [] (by kernel_rfl) (by simp only [denL, LV.den, denL_v]; rfl) ?_
  have hR := Rel.start [] w ρ0
  have hnp : ∀ q ∈ [o], q.n ≤ maxLen := fun q hq => by rw [List.mem_singleton.1 hq]; exact ho.ps.max
  refine sim_run 10 [] (hR.cast (by kernel_rfl)) (by kernel_rfl) trivial (fun ρ100 w100 hm100 hR100 => ?_)
  refine sim_call 28 [.slc 1 0 1 1] (by kernel_rfl) ?_
  refine Calls.mono (light11_any _ _ _ _ ([o]) _ (hR100.readsP (n := 1) (size := 5) (m := 1) (vs := o.cells) (b := true) (by kernel_rfl) rfl) (by omega) (by kernel_rfl) (by unfold maxLen; omega) (by assumption)) ?_
  rintro e101 w101 ⟨rfl, hb101⟩
  have hR101 := hR100.below hb101
  refine Back.of (LB (lightB [o])) hR101 rfl ?_
  refine sim_run 2 [] (hR101.cast (by kernel_rfl)) (by kernel_rfl) trivial (fun ρ102 w102 hm102 hR102 => ?_)
  refine sim_fork 9 (!lightB [o]) (by kernel_rfl) (fun hq103 => ?_) (fun hq103 => ?_)
  have hq103 := nb_t hq103
  have hq103 := of_decide_eq_false hq103
  refine sim_run 9 [] (hR102.cast (by kernel_rfl)) (by kernel_rfl) trivial (fun ρ104 w104 hm104 hR104 => ?_)
  refine sim_call 23 [] (by kernel_rfl) ?_
  refine Calls.mono (alive11_any _) ?_
  rintro e105 w105 ⟨rfl, hb105⟩
  have hR105 := hR104.below hb105
  refine Back.of (LB true) hR105 rfl ?_
  refine sim_run 2 [] (hR105.cast (by kernel_rfl)) (by kernel_rfl) trivial (fun ρ106 w106 hm106 hR106 => ?_)
  refine sim_ret (LB true) hR106 (by kernel_rfl) (by kernel_rfl) ?_
  exact ⟨rfl, hR106.toBelow⟩
  have hq103 := nb_f hq103
  have hq103 := of_decide_eq_true hq103
  refine sim_run 6 [] (hR102.cast (by kernel_rfl)) (by kernel_rfl) trivial (fun ρ107 w107 hm107 hR107 => ?_)
  refine sim_fork 14 ((↑o.n : Int) == 0) (by kernel_rfl) (fun hq108 => ?_) (fun hq108 => ?_)
  have hq108 := of_decide_eq_true hq108
  refine sim_run 3 [] (hR107.cast (by kernel_rfl)) (by kernel_rfl) trivial (fun ρ109 w109 hm109 hR109 => ?_)
  refine sim_call 23 [] (by kernel_rfl) ?_
  refine Calls.mono (alive11_any _) ?_
  rintro e110 w110 ⟨rfl, hb110⟩
  have hR110 := hR109.below hb110
  refine Back.of (LB true) hR110 rfl ?_
  refine sim_run 2 [] (hR110.cast (by kernel_rfl)) (by kernel_rfl) trivial (fun ρ111 w111 hm111 hR111 => ?_)
  refine sim_ret (LB true) hR111 (by kernel_rfl) (by kernel_rfl) ?_
  exact ⟨rfl, hR111.toBelow⟩
  have hq108 := of_decide_eq_false hq108
  refine sim_run 9 [] (hR107.cast (by kernel_rfl)) (by kernel_rfl) trivial (fun ρ112 w112 hm112 hR112 => ?_)
  
  refine sim_box (e := 56) (x := .agg zeroL) 2 (by kernel_rfl) (by kernel_rfl) (Rel.cast (by assumption) (by kernel_rfl)) (by kernel_rfl) (fun ρ2 w2 hm2 e2 hR2 hbl => ?_)
  have hrowv := hR2.rowW (cur := [.pointer none, .map none, .map none]) hbl
  have hag := hR2.ag_ 3 (by kernel_rfl)
  refine sim_run 7 [] (hR2.cast (by kernel_rfl)) (by kernel_rfl) trivial (fun ρ200 w200 hm200 hR200 => ?_)
  have hrowv := hrowv.moved (hm200.castL (by kernel_rfl))
  have hag := hag.moved (hm200.castL (by kernel_rfl))
  refine sim_call 31 [.v (Value.pointer none), .agg [LS o.acc, LS o.asset], LB true] (by kernel_rfl) ?_
  refine Calls.mono (nl_block _ _ _ _) ?_
  rintro e201 w201 ⟨rfl, hb201⟩
  have hR201 := hR200.below hb201
  have hrowv := hrowv.below hb201
  refine Back.of (.tup []) hR201 rfl ?_
  refine sim_run 6 [] (hR201.cast (by kernel_rfl)) (by kernel_rfl) trivial (fun ρ202 w202 hm202 hR202 => ?_)
  have hag := hag.moved (hm202.castL (by kernel_rfl))
  have hrowv := hrowv.moved (hm202.castL (by kernel_rfl))
  refine sim_call 31 [.ptr 2 0, .agg [LS o.acc, LS o.asset], LB true] (by kernel_rfl) ?_
  have ez2_203 := (hag.at_ 2 (by omega)).trans e2
  simp only [denL, LV.den, Nm.at_, ez2_203, Nat.add_zero]
  refine Calls.mono (zl_block _ _ _ _ _ (hrowv.full (n := 2) (cells := zeroL) (wr := true) hR202 hag (by kernel_rfl) e2 rfl)) ?_
  rintro e203 w203 ⟨rfl, hb203⟩
  have hR203 := hR202.below hb203
  have hrowv := hrowv.below hb203
  refine Back.of (.tup []) hR203 rfl ?_
  refine sim_run 3 [] (hR203.cast (by kernel_rfl)) (by kernel_rfl) trivial (fun ρ204 w204 hm204 hR204 => ?_)
  have hag := hag.moved (hm204.castL (by kernel_rfl))
  have hrowv := hrowv.moved (hm204.castL (by kernel_rfl))
  refine sim_call 23 [] (by kernel_rfl) ?_
  refine Calls.mono (alive11_any _) ?_
  rintro e205 w205 ⟨rfl, hb205⟩
  have hR205 := hR204.below hb205
  have hrowv := hrowv.below hb205
  refine Back.of (LB true) hR205 rfl ?_
  refine sim_run 4 [] (hR205.cast (by kernel_rfl)) (by kernel_rfl) trivial (fun ρ206 w206 hm206 hR206 => ?_)
  have hag := hag.moved (hm206.castL (by kernel_rfl))
  have hrowv := hrowv.moved (hm206.castL (by kernel_rfl))
  refine sim_call 29 [.v (Value.pointer none), .v (Value.slice o.A o.n o.c)] (by kernel_rfl) ?_
  refine Calls.mono (nl_apply _ _ _ _) ?_
  rintro e207 w207 ⟨rfl, hb207⟩
  have hR207 := hR206.below hb207
  have hrowv := hrowv.below hb207
  refine Back.of (LI 1) hR207 rfl ?_
  refine sim_run 6 [] (hR207.cast (by kernel_rfl)) (by kernel_rfl) trivial (fun ρ208 w208 hm208 hR208 => ?_)
  have hag := hag.moved (hm208.castL (by kernel_rfl))
  have hrowv := hrowv.moved (hm208.castL (by kernel_rfl))
  refine sim_call 29 [.ptr 2 0, .v (Value.slice o.A o.n o.c)] (by kernel_rfl) ?_
  have ez2_209 := (hag.at_ 2 (by omega)).trans e2
  simp only [denL, LV.den, Nm.at_, ez2_209, Nat.add_zero]
  refine Calls.mono (zl_apply _ _ _ _ _ (hrowv.full (n := 2) (cells := zeroL) (wr := true) hR208 hag (by kernel_rfl) e2 rfl)) ?_
  rintro e209 w209 ⟨rfl, hb209⟩
  have hR209 := hR208.below hb209
  have hrowv := hrowv.below hb209
  refine Back.of (LI 1) hR209 rfl ?_
  refine sim_run 6 [] (hR209.cast (by kernel_rfl)) (by kernel_rfl) trivial (fun ρ210 w210 hm210 hR210 => ?_)
  have hag := hag.moved (hm210.castL (by kernel_rfl))
  have hrowv := hrowv.moved (hm210.castL (by kernel_rfl))
  refine sim_call 27 [.v (Value.pointer none), .v (Value.slice o.A o.n o.c)] (by kernel_rfl) ?_
  refine Calls.mono (nl_try _ _ _ _) ?_
  rintro e211 w211 ⟨rfl, hb211⟩
  have hR211 := hR210.below hb211
  have hrowv := hrowv.below hb211
  refine Back.of (LI 1) hR211 rfl ?_
  refine sim_run 6 [] (hR211.cast (by kernel_rfl)) (by kernel_rfl) trivial (fun ρ212 w212 hm212 hR212 => ?_)
  have hag := hag.moved (hm212.castL (by kernel_rfl))
  have hrowv := hrowv.moved (hm212.castL (by kernel_rfl))
  refine sim_call 27 [.ptr 2 0, .v (Value.slice o.A o.n o.c)] (by kernel_rfl) ?_
  have ez2_213 := (hag.at_ 2 (by omega)).trans e2
  simp only [denL, LV.den, Nm.at_, ez2_213, Nat.add_zero]
  refine Calls.mono (zl_try _ _ _ _ _ (hrowv.full (n := 2) (cells := zeroL) (wr := true) hR212 hag (by kernel_rfl) e2 rfl)) ?_
  rintro e213 w213 ⟨rfl, hb213⟩
  have hR213 := hR212.below hb213
  have hrowv := hrowv.below hb213
  refine Back.of (LI 1) hR213 rfl ?_
  refine sim_run 8 [] (hR213.cast (by kernel_rfl)) (by kernel_rfl) trivial (fun ρ214 w214 hm214 hR214 => ?_)
  have hag := hag.moved (hm214.castL (by kernel_rfl))
  have hrowv := hrowv.moved (hm214.castL (by kernel_rfl))
  refine sim_call 25 [.v (Value.pointer none), .agg [LS o.acc, LS o.asset], LI o.amt] (by kernel_rfl) ?_
  refine Calls.mono (nl_issue _ _ _ _) ?_
  rintro e215 w215 ⟨rfl, hb215⟩
  have hR215 := hR214.below hb215
  have hrowv := hrowv.below hb215
  refine Back.of (LI 1) hR215 rfl ?_
  refine sim_run 8 [] (hR215.cast (by kernel_rfl)) (by kernel_rfl) trivial (fun ρ216 w216 hm216 hR216 => ?_)
  have hag := hag.moved (hm216.castL (by kernel_rfl))
  have hrowv := hrowv.moved (hm216.castL (by kernel_rfl))
  refine sim_call 25 [.ptr 2 0, .agg [LS o.acc, LS o.asset], LI o.amt] (by kernel_rfl) ?_
  have ez2_217 := (hag.at_ 2 (by omega)).trans e2
  simp only [denL, LV.den, Nm.at_, ez2_217, Nat.add_zero]
  refine Calls.mono (zl_issue _ _ _ _ _ (hrowv.full (n := 2) (cells := zeroL) (wr := true) hR216 hag (by kernel_rfl) e2 rfl)) ?_
  rintro e217 w217 ⟨rfl, hb217⟩
  have hR217 := hR216.below hb217
  have hrowv := hrowv.below hb217
  refine Back.of (LI 1) hR217 rfl ?_
  refine sim_run 4 [] (hR217.cast (by kernel_rfl)) (by kernel_rfl) trivial (fun ρ218 w218 hm218 hR218 => ?_)
  have hag := hag.moved (hm218.castL (by kernel_rfl))
  have hrowv := hrowv.moved (hm218.castL (by kernel_rfl))
  refine sim_call 32 [.v (Value.pointer none), LS (ByteArray.mk #[88])] (by kernel_rfl) ?_
  refine Calls.mono (nl_issued _ _) ?_
  rintro e219 w219 ⟨rfl, hb219⟩
  have hR219 := hR218.below hb219
  have hrowv := hrowv.below hb219
  refine Back.of (LI 0) hR219 rfl ?_
  refine sim_run 1 [] (hR219.cast (by kernel_rfl)) (by kernel_rfl) trivial (fun ρ220 w220 hm220 hR220 => ?_)
  have hag := hag.moved (hm220.castL (by kernel_rfl))
  have hrowv := hrowv.moved (hm220.castL (by kernel_rfl))
  refine sim_call 32 [.ptr 2 0, LS (ByteArray.mk #[88])] (by kernel_rfl) ?_
  have ez2_221 := (hag.at_ 2 (by omega)).trans e2
  simp only [denL, LV.den, Nm.at_, ez2_221, Nat.add_zero]
  refine Calls.mono (zl_issued _ _ _ (hrowv.full (n := 2) (cells := zeroL) (wr := true) hR220 hag (by kernel_rfl) e2 rfl)) ?_
  rintro e221 w221 ⟨rfl, hb221⟩
  have hR221 := hR220.below hb221
  have hrowv := hrowv.below hb221
  refine Back.of (LI 0) hR221 rfl ?_
  refine sim_run 2 [] (hR221.cast (by kernel_rfl)) (by kernel_rfl) trivial (fun ρ222 w222 hm222 hR222 => ?_)
  have hag := hag.moved (hm222.castL (by kernel_rfl))
  have hrowv := hrowv.moved (hm222.castL (by kernel_rfl))
  refine sim_call 35 [.v (Value.pointer none)] (by kernel_rfl) ?_
  refine Calls.mono (nl_blocks _) ?_
  rintro e223 w223 ⟨rfl, hb223⟩
  have hR223 := hR222.below hb223
  have hrowv := hrowv.below hb223
  refine Back.of (.v (Value.slice none 0 0)) hR223 rfl ?_
  refine sim_run 3 [] (hR223.cast (by kernel_rfl)) (by kernel_rfl) trivial (fun ρ224 w224 hm224 hR224 => ?_)
  have hag := hag.moved (hm224.castL (by kernel_rfl))
  have hrowv := hrowv.moved (hm224.castL (by kernel_rfl))
  refine sim_call 35 [.ptr 2 0] (by kernel_rfl) ?_
  have ez2_225 := (hag.at_ 2 (by omega)).trans e2
  simp only [denL, LV.den, Nm.at_, ez2_225, Nat.add_zero]
  refine Calls.mono (zl_blocks _ _ (hrowv.full (n := 2) (cells := zeroL) (wr := true) hR224 hag (by kernel_rfl) e2 rfl)) ?_
  rintro e225 w225 ⟨rfl, hb225⟩
  have hR225 := hR224.below hb225
  have hrowv := hrowv.below hb225
  refine Back.of (.v (Value.slice none 0 0)) hR225 rfl ?_
  refine sim_run 8 [] (hR225.cast (by kernel_rfl)) (by kernel_rfl) trivial (fun ρ226 w226 hm226 hR226 => ?_)
  have hag := hag.moved (hm226.castL (by kernel_rfl))
  have hrowv := hrowv.moved (hm226.castL (by kernel_rfl))
  refine sim_call 34 [.v (Value.pointer none), .agg [LS o.acc, LS o.asset]] (by kernel_rfl) ?_
  refine Calls.mono (nl_blocked _ _ _) ?_
  rintro e227 w227 ⟨rfl, hb227⟩
  have hR227 := hR226.below hb227
  have hrowv := hrowv.below hb227
  refine Back.of (LB false) hR227 rfl ?_
  refine sim_run 6 [] (hR227.cast (by kernel_rfl)) (by kernel_rfl) trivial (fun ρ228 w228 hm228 hR228 => ?_)
  have hag := hag.moved (hm228.castL (by kernel_rfl))
  have hrowv := hrowv.moved (hm228.castL (by kernel_rfl))
  refine sim_call 34 [.ptr 2 0, .agg [LS o.acc, LS o.asset]] (by kernel_rfl) ?_
  have ez2_229 := (hag.at_ 2 (by omega)).trans e2
  simp only [denL, LV.den, Nm.at_, ez2_229, Nat.add_zero]
  refine Calls.mono (zl_blocked _ _ _ _ (hrowv.full (n := 2) (cells := zeroL) (wr := true) hR228 hag (by kernel_rfl) e2 rfl)) ?_
  rintro e229 w229 ⟨rfl, hb229⟩
  have hR229 := hR228.below hb229
  have hrowv := hrowv.below hb229
  refine Back.of (LB false) hR229 rfl ?_
  refine sim_run 4 [] (hR229.cast (by kernel_rfl)) (by kernel_rfl) trivial (fun ρ230 w230 hm230 hR230 => ?_)
  have hag := hag.moved (hm230.castL (by kernel_rfl))
  have hrowv := hrowv.moved (hm230.castL (by kernel_rfl))
  refine sim_ret (LB true) hR230 (by kernel_rfl) (by kernel_rfl) ?_
  exact ⟨rfl, hR230.toBelow⟩
  
  all_goals sorry
end Go.Proofs.Ytgbgedaedcofcaa
