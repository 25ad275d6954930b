/-
  complinelaw14.alive answers true.
-/
import Derived.Test.YtodjhkmbgennaaaBookL
namespace Go.Proofs.Ytodjhkmbgennaaa
open Go Go.RowKit
attribute [local irreducible] run goO goN ordGoN eqlOf eqlOper eqlOfO cellL leaveK someK nextK nextT nextOT nextOD loopBody loopRest loopK fillJ tmplOf tmplJ mergeT At AtO drawOk ordOf gateOf callC callO topOp topO idxOf appOf storeOf clearOf sliceOf calleeOf calleeO topQ idxQ newRowOf resL stepOp seek

set_option maxRecDepth 100000 in
theorem alive14_any (w : World) : Calls Try.prog 20 #[] w fun e w' => e = .returned (.bool true) ∧ Below w.heap.size w w' := by
  refine sim_enter Try.func20 ρ0 [] [] (by kernel_rfl) rfl ?_
  have hR := Rel.start [] w ρ0
  refine sim_run 6 [] hR (by kernel_rfl) trivial (fun ρ100 w100 hm100 hR100 => ?_)
  refine sim_call 19 [] (by kernel_rfl) ?_
  refine Calls.mono (new_any _) ?_
  rintro e101 w101 ⟨g, rfl, hg101, hb101, hbel101⟩
  have hBw := hR100.keeps.size
  have hbk := BkO.new hR100 hg101 hb101
  have hR101 := hR100.below hbel101
  refine Back.of (.v (Value.pointer (some (Addr.mk g 0 none)))) hR101 rfl ?_
  refine sim_run 14 [] hR101 (by kernel_rfl) trivial (fun ρ102 w102 hm102 hR102 => ?_)
  have hbk := hbk.moved hm102
  refine sim_call 21 [.v (Value.pointer (some (Addr.mk g 0 none))), .agg [LS (ByteArray.mk #[80]), LS (ByteArray.mk #[]), LS (ByteArray.mk #[]), LS (ByteArray.mk #[]), LB true, LS (ByteArray.mk #[]), LS (ByteArray.mk #[]), LS (ByteArray.mk #[]), LI 3, LI 0, LI 0, LI 0], LI 1, LB false, LB false] (by kernel_rfl) ?_
  refine Calls.mono (add_bk _ _ _ _ _ _ _ _ _ _ _ _ _ _ _ _ _ _ _ _ hbk.bk (by constructor <;> decide +kernel)) ?_
  rintro e103 w103 ⟨v103, rfl, hbv103, hk103, hv103⟩
  obtain ⟨hbk, hR103⟩ := hbk.after hR102 hBw hbv103 hk103 hv103 [] (by kernel_rfl) (by simp)
  refine Back.of (.tup [LI ((addM [] (Tm.mk (ByteArray.mk #[80]) (ByteArray.mk #[]) (ByteArray.mk #[]) (ByteArray.mk #[]) true (ByteArray.mk #[]) (ByteArray.mk #[]) (ByteArray.mk #[]) 3 0 0 0) 1 false false).snd.fst), LI ((addM [] (Tm.mk (ByteArray.mk #[80]) (ByteArray.mk #[]) (ByteArray.mk #[]) (ByteArray.mk #[]) true (ByteArray.mk #[]) (ByteArray.mk #[]) (ByteArray.mk #[]) 3 0 0 0) 1 false false).snd.snd)]) hR103 rfl ?_
  refine sim_run 10 [] hR103 (by kernel_rfl) trivial (fun ρ104 w104 hm104 hR104 => ?_)
  have hbk := hbk.moved hm104
  refine sim_call 21 [.v (Value.pointer (some (Addr.mk g 0 none))), .agg [LS (ByteArray.mk #[81]), LS (ByteArray.mk #[]), LS (ByteArray.mk #[]), LS (ByteArray.mk #[]), LB false, LS (ByteArray.mk #[]), LS (ByteArray.mk #[]), LS (ByteArray.mk #[]), LI 3, LI 0, LI 0, LI 0], LI 1, LB false, LB false] (by kernel_rfl) ?_
  refine Calls.mono (add_bk _ _ _ _ _ _ _ _ _ _ _ _ _ _ _ _ _ _ _ _ hbk.bk (by constructor <;> decide +kernel)) ?_
  rintro e105 w105 ⟨v105, rfl, hbv105, hk105, hv105⟩
  obtain ⟨hbk, hR105⟩ := hbk.after hR104 hBw hbv105 hk105 hv105 [] (by kernel_rfl) (by simp)
  refine Back.of (.tup [LI ((addM (addM [] (Tm.mk (ByteArray.mk #[80]) (ByteArray.mk #[]) (ByteArray.mk #[]) (ByteArray.mk #[]) true (ByteArray.mk #[]) (ByteArray.mk #[]) (ByteArray.mk #[]) 3 0 0 0) 1 false false).fst (Tm.mk (ByteArray.mk #[81]) (ByteArray.mk #[]) (ByteArray.mk #[]) (ByteArray.mk #[]) false (ByteArray.mk #[]) (ByteArray.mk #[]) (ByteArray.mk #[]) 3 0 0 0) 1 false false).snd.fst), LI ((addM (addM [] (Tm.mk (ByteArray.mk #[80]) (ByteArray.mk #[]) (ByteArray.mk #[]) (ByteArray.mk #[]) true (ByteArray.mk #[]) (ByteArray.mk #[]) (ByteArray.mk #[]) 3 0 0 0) 1 false false).fst (Tm.mk (ByteArray.mk #[81]) (ByteArray.mk #[]) (ByteArray.mk #[]) (ByteArray.mk #[]) false (ByteArray.mk #[]) (ByteArray.mk #[]) (ByteArray.mk #[]) 3 0 0 0) 1 false false).snd.snd)]) hR105 rfl ?_
  refine sim_run 25 [] hR105 (by kernel_rfl) trivial (fun ρ106 w106 hm106 hR106 => ?_)
  have hbk := hbk.moved hm106
  refine sim_call 24 [.v (Value.pointer (some (Addr.mk g 0 none))), LI 1, LI 2, LI 100] (by kernel_rfl) ?_
  refine Calls.mono (pair_bk _ _ _ _ _ _ _ _ hbk.bk (by unfold Is64 at *; omega) (by unfold Is64 at *; omega)) ?_
  rintro e107 w107 ⟨v107, rfl, hbv107, hk107, hv107⟩
  obtain ⟨hbk, hR107⟩ := hbk.after hR106 hBw hbv107 hk107 hv107 [] (by kernel_rfl) (by simp)
  refine Back.of (LI ((pairM (addM (addM [] (Tm.mk (ByteArray.mk #[80]) (ByteArray.mk #[]) (ByteArray.mk #[]) (ByteArray.mk #[]) true (ByteArray.mk #[]) (ByteArray.mk #[]) (ByteArray.mk #[]) 3 0 0 0) 1 false false).fst (Tm.mk (ByteArray.mk #[81]) (ByteArray.mk #[]) (ByteArray.mk #[]) (ByteArray.mk #[]) false (ByteArray.mk #[]) (ByteArray.mk #[]) (ByteArray.mk #[]) 3 0 0 0) 1 false false).fst 1 2 100).snd)) hR107 rfl ?_
  refine sim_run 4 [] hR107 (by kernel_rfl) trivial (fun ρ108 w108 hm108 hR108 => ?_)
  have hbk := hbk.moved hm108
  refine sim_call 32 [.v (Value.pointer (some (Addr.mk g 0 none))), LI 1, LI 1, LI 33] (by kernel_rfl) ?_
  refine Calls.mono (settle_bk _ _ _ _ _ _ _ _ hbk.bk (by unfold Is64 at *; omega) (by unfold Is64; decide +kernel) (by unfold Is64; decide +kernel)) ?_
  rintro e109 w109 ⟨v109, rfl, hbv109, hk109, hv109⟩
  obtain ⟨hbk, hR109⟩ := hbk.after hR108 hBw hbv109 hk109 hv109 [] (by kernel_rfl) (by simp)
  refine Back.of (LI ((settleM (pairM (addM (addM [] (Tm.mk (ByteArray.mk #[80]) (ByteArray.mk #[]) (ByteArray.mk #[]) (ByteArray.mk #[]) true (ByteArray.mk #[]) (ByteArray.mk #[]) (ByteArray.mk #[]) 3 0 0 0) 1 false false).fst (Tm.mk (ByteArray.mk #[81]) (ByteArray.mk #[]) (ByteArray.mk #[]) (ByteArray.mk #[]) false (ByteArray.mk #[]) (ByteArray.mk #[]) (ByteArray.mk #[]) 3 0 0 0) 1 false false).fst 1 2 100).fst 1 1 33).snd)) hR109 rfl ?_
  refine sim_run 8 [] hR109 (by kernel_rfl) trivial (fun ρ110 w110 hm110 hR110 => ?_)
  have hbk := hbk.moved hm110
  refine sim_call 22 [.v (Value.pointer (some (Addr.mk g 0 none))), LI 2] (by kernel_rfl) ?_
  refine Calls.mono (get_bk _ _ _ _ _ _ hbk.bk (by unfold Is64 at *; omega)) ?_
  rintro e111 w111 ⟨rfl, hb111⟩
  have hR111 := hR110.below hb111
  have hbk := hbk.below hb111
  refine Back.of (.tup [.agg (((getM (settleM (pairM (addM (addM [] (Tm.mk (ByteArray.mk #[80]) (ByteArray.mk #[]) (ByteArray.mk #[]) (ByteArray.mk #[]) true (ByteArray.mk #[]) (ByteArray.mk #[]) (ByteArray.mk #[]) 3 0 0 0) 1 false false).fst (Tm.mk (ByteArray.mk #[81]) (ByteArray.mk #[]) (ByteArray.mk #[]) (ByteArray.mk #[]) false (ByteArray.mk #[]) (ByteArray.mk #[]) (ByteArray.mk #[]) 3 0 0 0) 1 false false).fst 1 2 100).fst 1 1 33).fst 2).fst).cells.map .v), LI ((getM (settleM (pairM (addM (addM [] (Tm.mk (ByteArray.mk #[80]) (ByteArray.mk #[]) (ByteArray.mk #[]) (ByteArray.mk #[]) true (ByteArray.mk #[]) (ByteArray.mk #[]) (ByteArray.mk #[]) 3 0 0 0) 1 false false).fst (Tm.mk (ByteArray.mk #[81]) (ByteArray.mk #[]) (ByteArray.mk #[]) (ByteArray.mk #[]) false (ByteArray.mk #[]) (ByteArray.mk #[]) (ByteArray.mk #[]) 3 0 0 0) 1 false false).fst 1 2 100).fst 1 1 33).fst 2).snd)]) hR111 rfl ?_
  refine sim_run 39 [] hR111 (by kernel_rfl) trivial (fun ρ112 w112 hm112 hR112 => ?_)
  have hbk := hbk.moved hm112
  refine sim_ret (LB true) hR112 (by kernel_rfl) (by kernel_rfl) ?_
  exact ⟨rfl, hR112.toBelow⟩
  
end Go.Proofs.Ytodjhkmbgennaaa
