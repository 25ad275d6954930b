/-
  CreditNone: nil lines.
-/
import Derived.Test.YtioehmngkoffaaaCrLw
import Derived.Test.YtioehmngkoffaaaTree
import Derived.Test.YtioehmngkoffaaaOpC
namespace Go.Proofs.Ytioehmngkoffaaa
open Go Go.RowKit
attribute [local irreducible] run goO leaveK someK nextK nextT nextOT nextOD loopBody loopRest loopK fillJ tmplOf tmplJ mergeT At AtO drawOk ordOf gateOf callC callO topOp topO idxOf appOf storeOf clearOf sliceOf calleeOf calleeO topQ idxQ newRowOf resL stepOp seek
set_option maxRecDepth 100000 in
set_option maxHeartbeats 4000000 in
theorem take_nil (pa ac cy : ByteArray) (am : Int) (A : Option Addr) (n cp : Nat) (w : World) : Calls Try.prog 11 #[.pointer none, .string pa, .agg #[.string ac, .string cy, .int .i64 am, .slice A n cp]] w fun e w' => e = .returned (.int .i64 1) ∧ Below w.heap.size w w' := by
  refine sim_enter Try.func11 ρ0 [.v (.pointer none), LS pa, .agg [LS ac, LS cy, LI am, .v (.slice A n cp)]] [] (by kernel_rfl) rfl ?_
  have hR := Rel.start [] w ρ0
  refine sim_run 20 [] (hR.cast (by kernel_rfl)) (by kernel_rfl) trivial (fun ρ100 w100 hm100 hR100 => ?_)
  refine sim_ret (LI 1) hR100 (by kernel_rfl) (by kernel_rfl) ?_
  exact ⟨rfl, hR100.toBelow⟩
  
theorem take_nil0 (pa : ByteArray) (w : World) : Calls Try.prog 11 #[.pointer none, .string pa, .agg #[.string ⟨#[]⟩, .string ⟨#[]⟩, .int .i64 1, .slice none 0 0]] w fun e w' => e = .returned (.int .i64 1) ∧ Below w.heap.size w w' := take_nil pa _ _ 1 none 0 0 w
set_option maxRecDepth 100000 in
set_option maxHeartbeats 4000000 in
theorem creditNone_w (kind n : Int) (pa ac cy : ByteArray) (A : Option Addr) (np cp : Nat) (w : World) : Calls Try.prog 4 #[.agg #[.int .i64 kind, .int .i64 n, .string pa, .string ac, .string cy, .slice A np cp]] w fun e w' => e = .returned (.bool true) ∧ Below w.heap.size w w' := by
  refine sim_enter Try.func4 ρ0 [.agg [LI kind, LI n, LS pa, LS ac, LS cy, .v (.slice A np cp)]] [] (by kernel_rfl) rfl ?_
  have hR := Rel.start [] w ρ0
  refine sim_run 18 [] (hR.cast (by kernel_rfl)) (by kernel_rfl) trivial (fun ρ200 w200 hm200 hR200 => ?_)
  refine sim_call 9 [.v (Value.pointer none), LS ac, LS cy, LI n] (by kernel_rfl) ?_
  refine Calls.mono (repay_nil _ _ _ _) ?_
  rintro e201 w201 ⟨rfl, hb201⟩
  have hR201 := hR200.below hb201
  refine Back.of (.tup [LI 0, LI 1]) hR201 rfl ?_
  refine sim_run 13 [] (hR201.cast (by kernel_rfl)) (by kernel_rfl) trivial (fun ρ202 w202 hm202 hR202 => ?_)
  refine sim_call 10 [.v (Value.pointer none), LS ac, LS cy] (by kernel_rfl) ?_
  refine Calls.mono (free_nil _ _ _) ?_
  rintro e203 w203 ⟨rfl, hb203⟩
  have hR203 := hR202.below hb203
  refine Back.of (.tup [.v (Value.slice none 0 0), LI 1]) hR203 rfl ?_
  refine sim_run 13 [] (hR203.cast (by kernel_rfl)) (by kernel_rfl) trivial (fun ρ204 w204 hm204 hR204 => ?_)
  refine sim_call 15 [.v (Value.pointer none), LS ac, LS cy] (by kernel_rfl) ?_
  refine Calls.mono (loan_nil _ _ _) ?_
  rintro e205 w205 ⟨rfl, hb205⟩
  have hR205 := (hR204).below hb205
  refine Back.of (.tup [.agg [LS ByteArray.empty, LS ByteArray.empty, LS ByteArray.empty, LI 0, .v (.slice none 0 0)], LB false]) hR205 rfl ?_
  refine sim_run 8 [] (hR205.cast (by kernel_rfl)) (by kernel_rfl) trivial (fun ρ206 w206 hm206 hR206 => ?_)
  
  refine sim_draw [] (by kernel_rfl) (by kernel_rfl) hR206 (fun hR300 => ?_)
  refine sim_ord_call (T := []) (w0 := w) 6 [] (by kernel_rfl) ?_
  refine Calls.mono (alive21_any _) ?_
  rintro e301 w301 ⟨rfl, hb301⟩
  have hR301 := hR300.call hb301 (LB true)
  refine BackO.of (LB true) hR301 rfl ?_
  refine sim_ordN 26 [] hR301 (by kernel_rfl) trivial (fun ρ302 w302 hm302 hR302 => ?_)
  refine sim_ord_call (T := []) (w0 := w) 11 [.v (Value.pointer none), LS pa, .agg [LS (ByteArray.mk #[]), LS (ByteArray.mk #[]), LI 1, .v (Value.slice none 0 0)]] (by kernel_rfl) ?_
  refine Calls.mono (take_nil0 _ _) ?_
  rintro e303 w303 ⟨rfl, hb303⟩
  have hR303 := hR302.call hb303 (LI 1)
  refine BackO.of (LI 1) hR303 rfl ?_
  refine sim_ordN 10 [] hR303 (by kernel_rfl) trivial (fun ρ304 w304 hm304 hR304 => ?_)
  refine sim_ord_call (T := []) (w0 := w) 8 [.v (Value.pointer none), .v (Value.slice none 0 0)] (by kernel_rfl) ?_
  refine Calls.mono (loans_nil _ _ _ _) ?_
  rintro e305 w305 ⟨rfl, hb305⟩
  have hR305 := hR304.call hb305 (.v (Value.slice none 0 0))
  refine BackO.of (.v (Value.slice none 0 0)) hR305 rfl ?_
  refine sim_ordN 1 [] hR305 (by kernel_rfl) trivial (fun ρ306 w306 hm306 hR306 => ?_)
  refine sim_ord_call (T := []) (w0 := w) 14 [.v (Value.pointer none), LS pa] (by kernel_rfl) ?_
  refine Calls.mono (used_nil _ _) ?_
  rintro e307 w307 ⟨rfl, hb307⟩
  have hR307 := hR306.call hb307 (LI 0)
  refine BackO.of (LI 0) hR307 rfl ?_
  refine sim_ordN 1 [] hR307 (by kernel_rfl) trivial (fun ρ308 w308 hm308 hR308 => ?_)
  refine sim_ord_call (T := []) (w0 := w) 16 [.v (Value.pointer none), LS ac, LS (ByteArray.mk #[88])] (by kernel_rfl) ?_
  refine Calls.mono (pledged_nil _ _ _) ?_
  rintro e309 w309 ⟨rfl, hb309⟩
  have hR309 := hR308.call hb309 (LI 0)
  refine BackO.of (LI 0) hR309 rfl ?_
  refine sim_ordN 4 [] hR309 (by kernel_rfl) trivial (fun ρ310 w310 hm310 hR310 => ?_)
  refine sim_ord_endR hR310 (by kernel_rfl) (fun hR311 => ?_)
  refine sim_ret (LB true) (hR311.cast (by kernel_rfl)) (by kernel_rfl) (by kernel_rfl) ?_
  exact ⟨rfl, hR311.toBelow⟩
  
theorem creditNone_walk (W : World) (o : OpC) : Calls Try.prog 4 #[.agg o.cells.toArray] W fun e w' => e = .returned (.bool true) ∧ Below W.heap.size W w' := creditNone_w o.kind o.n o.party o.acc o.cc o.p.A o.p.n o.p.c W
end Go.Proofs.Ytioehmngkoffaaa
