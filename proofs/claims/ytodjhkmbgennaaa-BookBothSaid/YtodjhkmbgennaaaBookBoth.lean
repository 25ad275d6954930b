/-
  An instruction that has a mate is cancelled just when both wish it; alone it is by its party's word: for every three answers.
-/
import Derived.Test.YtodjhkmbgennaaaBookM
namespace Go.Proofs.Ytodjhkmbgennaaa
open Go Go.RowKit
attribute [local irreducible] run goO goN ordGoN eqlOf eqlOper eqlOfO cellL leaveK someK nextK nextT nextOT nextOD loopBody loopRest loopK fillJ tmplOf tmplJ mergeT At AtO drawOk ordOf gateOf callC callO topOp topO idxOf appOf storeOf clearOf sliceOf calleeOf calleeO topQ idxQ newRowOf resL stepOp seek

set_option maxRecDepth 100000 in
set_option maxHeartbeats 4000000 in
theorem bookBoth_walk (w : World) (first keeps second : Bool) : Calls Try.prog 6 #[.bool first, .bool keeps, .bool second] w fun e w' => e = .returned (.bool true) ∧ Below w.heap.size w w' := by
  refine sim_enter Try.func6 ρ0 [LB first, LB keeps, LB second] [] (by kernel_rfl) rfl ?_
  have hR := Rel.start [] w ρ0
  cases first <;> cases keeps <;> cases second
  · refine sim_run 6 [] hR (by kernel_rfl) trivial (fun ρ100 w100 hm100 hR100 => ?_)
    refine sim_call 19 [] (by kernel_rfl) ?_
    refine Calls.mono (new_any _) ?_
    rintro e101 w101 ⟨g, rfl, hg101, hb101, hbel101⟩
    have hBw := hR100.keeps.size
    have hbk := BkO.new hR100 hg101 hb101
    have hR101 := hR100.below hbel101
    refine Back.of (.v (Value.pointer (some (Addr.mk g 0 none)))) hR101 rfl ?_
    refine sim_run 14 [] hR101 (by kernel_rfl) trivial (fun ρ102 w102 hm102 hR102 => ?_)
    have hbk := hbk.moved hm102
    refine sim_call 21 [.v (Value.pointer (some (Addr.mk g 0 none))), .agg [LS (ByteArray.mk #[80]), LS (ByteArray.mk #[]), LS (ByteArray.mk #[]), LS (ByteArray.mk #[]), LB true, LS (ByteArray.mk #[]), LS (ByteArray.mk #[]), LS (ByteArray.mk #[]), LI 3, LI 0, LI 0, LI 0], LI 1, LB false, LB false] (by kernel_rfl) ?_
    refine Calls.mono (add_bk _ _ _ _ _ _ _ _ _ _ _ _ _ _ _ _ _ _ _ _ hbk.bk (by constructor <;> decide +kernel)) ?_
    rintro e103 w103 ⟨v103, rfl, hbv103, hk103, hv103⟩
    obtain ⟨hbk, hR103⟩ := hbk.after hR102 hBw hbv103 hk103 hv103 [] (by kernel_rfl) (by simp)
    refine Back.of (.tup [LI ((addM [] (Tm.mk (ByteArray.mk #[80]) (ByteArray.mk #[]) (ByteArray.mk #[]) (ByteArray.mk #[]) true (ByteArray.mk #[]) (ByteArray.mk #[]) (ByteArray.mk #[]) 3 0 0 0) 1 false false).snd.fst), LI ((addM [] (Tm.mk (ByteArray.mk #[80]) (ByteArray.mk #[]) (ByteArray.mk #[]) (ByteArray.mk #[]) true (ByteArray.mk #[]) (ByteArray.mk #[]) (ByteArray.mk #[]) 3 0 0 0) 1 false false).snd.snd)]) hR103 rfl ?_
    refine sim_run 5 [] hR103 (by kernel_rfl) trivial (fun ρ104 w104 hm104 hR104 => ?_)
    have hbk := hbk.moved hm104
    refine sim_call 21 [.v (Value.pointer (some (Addr.mk g 0 none))), .agg [LS (ByteArray.mk #[81]), LS (ByteArray.mk #[]), LS (ByteArray.mk #[]), LS (ByteArray.mk #[]), LB false, LS (ByteArray.mk #[]), LS (ByteArray.mk #[]), LS (ByteArray.mk #[]), LI 3, LI 0, LI 0, LI 0], LI 1, LB false, LB false] (by kernel_rfl) ?_
    refine Calls.mono (add_bk _ _ _ _ _ _ _ _ _ _ _ _ _ _ _ _ _ _ _ _ hbk.bk (by constructor <;> decide +kernel)) ?_
    rintro e105 w105 ⟨v105, rfl, hbv105, hk105, hv105⟩
    obtain ⟨hbk, hR105⟩ := hbk.after hR104 hBw hbv105 hk105 hv105 [] (by kernel_rfl) (by simp)
    refine Back.of (.tup [LI ((addM (addM [] (Tm.mk (ByteArray.mk #[80]) (ByteArray.mk #[]) (ByteArray.mk #[]) (ByteArray.mk #[]) true (ByteArray.mk #[]) (ByteArray.mk #[]) (ByteArray.mk #[]) 3 0 0 0) 1 false false).fst (Tm.mk (ByteArray.mk #[81]) (ByteArray.mk #[]) (ByteArray.mk #[]) (ByteArray.mk #[]) false (ByteArray.mk #[]) (ByteArray.mk #[]) (ByteArray.mk #[]) 3 0 0 0) 1 false false).snd.fst), LI ((addM (addM [] (Tm.mk (ByteArray.mk #[80]) (ByteArray.mk #[]) (ByteArray.mk #[]) (ByteArray.mk #[]) true (ByteArray.mk #[]) (ByteArray.mk #[]) (ByteArray.mk #[]) 3 0 0 0) 1 false false).fst (Tm.mk (ByteArray.mk #[81]) (ByteArray.mk #[]) (ByteArray.mk #[]) (ByteArray.mk #[]) false (ByteArray.mk #[]) (ByteArray.mk #[]) (ByteArray.mk #[]) 3 0 0 0) 1 false false).snd.snd)]) hR105 rfl ?_
    refine sim_run 5 [] hR105 (by kernel_rfl) trivial (fun ρ106 w106 hm106 hR106 => ?_)
    have hbk := hbk.moved hm106
    refine sim_call 21 [.v (Value.pointer (some (Addr.mk g 0 none))), .agg [LS (ByteArray.mk #[81]), LS (ByteArray.mk #[]), LS (ByteArray.mk #[]), LS (ByteArray.mk #[]), LB false, LS (ByteArray.mk #[]), LS (ByteArray.mk #[]), LS (ByteArray.mk #[]), LI 3, LI 0, LI 0, LI 0], LI 1, LB false, LB false] (by kernel_rfl) ?_
    refine Calls.mono (add_bk _ _ _ _ _ _ _ _ _ _ _ _ _ _ _ _ _ _ _ _ hbk.bk (by constructor <;> decide +kernel)) ?_
    rintro e107 w107 ⟨v107, rfl, hbv107, hk107, hv107⟩
    obtain ⟨hbk, hR107⟩ := hbk.after hR106 hBw hbv107 hk107 hv107 [] (by kernel_rfl) (by simp)
    refine Back.of (.tup [LI ((addM (addM (addM [] (Tm.mk (ByteArray.mk #[80]) (ByteArray.mk #[]) (ByteArray.mk #[]) (ByteArray.mk #[]) true (ByteArray.mk #[]) (ByteArray.mk #[]) (ByteArray.mk #[]) 3 0 0 0) 1 false false).fst (Tm.mk (ByteArray.mk #[81]) (ByteArray.mk #[]) (ByteArray.mk #[]) (ByteArray.mk #[]) false (ByteArray.mk #[]) (ByteArray.mk #[]) (ByteArray.mk #[]) 3 0 0 0) 1 false false).fst (Tm.mk (ByteArray.mk #[81]) (ByteArray.mk #[]) (ByteArray.mk #[]) (ByteArray.mk #[]) false (ByteArray.mk #[]) (ByteArray.mk #[]) (ByteArray.mk #[]) 3 0 0 0) 1 false false).snd.fst), LI ((addM (addM (addM [] (Tm.mk (ByteArray.mk #[80]) (ByteArray.mk #[]) (ByteArray.mk #[]) (ByteArray.mk #[]) true (ByteArray.mk #[]) (ByteArray.mk #[]) (ByteArray.mk #[]) 3 0 0 0) 1 false false).fst (Tm.mk (ByteArray.mk #[81]) (ByteArray.mk #[]) (ByteArray.mk #[]) (ByteArray.mk #[]) false (ByteArray.mk #[]) (ByteArray.mk #[]) (ByteArray.mk #[]) 3 0 0 0) 1 false false).fst (Tm.mk (ByteArray.mk #[81]) (ByteArray.mk #[]) (ByteArray.mk #[]) (ByteArray.mk #[]) false (ByteArray.mk #[]) (ByteArray.mk #[]) (ByteArray.mk #[]) 3 0 0 0) 1 false false).snd.snd)]) hR107 rfl ?_
    refine sim_run 5 [] hR107 (by kernel_rfl) trivial (fun ρ108 w108 hm108 hR108 => ?_)
    have hbk := hbk.moved hm108
    refine sim_call 24 [.v (Value.pointer (some (Addr.mk g 0 none))), LI 1, LI 2, LI 9] (by kernel_rfl) ?_
    refine Calls.mono (pair_bk _ _ _ _ _ _ _ _ hbk.bk (by unfold Is64 at *; omega) (by unfold Is64 at *; omega)) ?_
    rintro e109 w109 ⟨v109, rfl, hbv109, hk109, hv109⟩
    obtain ⟨hbk, hR109⟩ := hbk.after hR108 hBw hbv109 hk109 hv109 [] (by kernel_rfl) (by simp)
    refine Back.of (LI ((pairM (addM (addM (addM [] (Tm.mk (ByteArray.mk #[80]) (ByteArray.mk #[]) (ByteArray.mk #[]) (ByteArray.mk #[]) true (ByteArray.mk #[]) (ByteArray.mk #[]) (ByteArray.mk #[]) 3 0 0 0) 1 false false).fst (Tm.mk (ByteArray.mk #[81]) (ByteArray.mk #[]) (ByteArray.mk #[]) (ByteArray.mk #[]) false (ByteArray.mk #[]) (ByteArray.mk #[]) (ByteArray.mk #[]) 3 0 0 0) 1 false false).fst (Tm.mk (ByteArray.mk #[81]) (ByteArray.mk #[]) (ByteArray.mk #[]) (ByteArray.mk #[]) false (ByteArray.mk #[]) (ByteArray.mk #[]) (ByteArray.mk #[]) 3 0 0 0) 1 false false).fst 1 2 9).snd)) hR109 rfl ?_
    refine sim_run 3 [] hR109 (by kernel_rfl) trivial (fun ρ110 w110 hm110 hR110 => ?_)
    have hbk := hbk.moved hm110
    refine sim_call 25 [.v (Value.pointer (some (Addr.mk g 0 none))), LS (ByteArray.mk #[80]), LI 2] (by kernel_rfl) ?_
    refine Calls.mono (cancel_bk _ _ _ _ _ _ _ hbk.bk (by unfold Is64 at *; omega) (by unfold Is64; decide +kernel)) ?_
    rintro e111 w111 ⟨v111, rfl, hbv111, hk111, hv111⟩
    obtain ⟨hbk, hR111⟩ := hbk.after hR110 hBw hbv111 hk111 hv111 [] (by kernel_rfl) (by simp)
    refine Back.of (LI ((cancelM (pairM (addM (addM (addM [] (Tm.mk (ByteArray.mk #[80]) (ByteArray.mk #[]) (ByteArray.mk #[]) (ByteArray.mk #[]) true (ByteArray.mk #[]) (ByteArray.mk #[]) (ByteArray.mk #[]) 3 0 0 0) 1 false false).fst (Tm.mk (ByteArray.mk #[81]) (ByteArray.mk #[]) (ByteArray.mk #[]) (ByteArray.mk #[]) false (ByteArray.mk #[]) (ByteArray.mk #[]) (ByteArray.mk #[]) 3 0 0 0) 1 false false).fst (Tm.mk (ByteArray.mk #[81]) (ByteArray.mk #[]) (ByteArray.mk #[]) (ByteArray.mk #[]) false (ByteArray.mk #[]) (ByteArray.mk #[]) (ByteArray.mk #[]) 3 0 0 0) 1 false false).fst 1 2 9).fst (ByteArray.mk #[80]) 2).snd)) hR111 rfl ?_
    refine sim_run 4 [] hR111 (by kernel_rfl) trivial (fun ρ112 w112 hm112 hR112 => ?_)
    have hbk := hbk.moved hm112
    refine sim_call 25 [.v (Value.pointer (some (Addr.mk g 0 none))), LS (ByteArray.mk #[81]), LI 3] (by kernel_rfl) ?_
    refine Calls.mono (cancel_bk _ _ _ _ _ _ _ hbk.bk (by unfold Is64 at *; omega) (by unfold Is64; decide +kernel)) ?_
    rintro e113 w113 ⟨v113, rfl, hbv113, hk113, hv113⟩
    obtain ⟨hbk, hR113⟩ := hbk.after hR112 hBw hbv113 hk113 hv113 [] (by kernel_rfl) (by simp)
    refine Back.of (LI ((cancelM (cancelM (pairM (addM (addM (addM [] (Tm.mk (ByteArray.mk #[80]) (ByteArray.mk #[]) (ByteArray.mk #[]) (ByteArray.mk #[]) true (ByteArray.mk #[]) (ByteArray.mk #[]) (ByteArray.mk #[]) 3 0 0 0) 1 false false).fst (Tm.mk (ByteArray.mk #[81]) (ByteArray.mk #[]) (ByteArray.mk #[]) (ByteArray.mk #[]) false (ByteArray.mk #[]) (ByteArray.mk #[]) (ByteArray.mk #[]) 3 0 0 0) 1 false false).fst (Tm.mk (ByteArray.mk #[81]) (ByteArray.mk #[]) (ByteArray.mk #[]) (ByteArray.mk #[]) false (ByteArray.mk #[]) (ByteArray.mk #[]) (ByteArray.mk #[]) 3 0 0 0) 1 false false).fst 1 2 9).fst (ByteArray.mk #[80]) 2).fst (ByteArray.mk #[81]) 3).snd)) hR113 rfl ?_
    refine sim_run 29 [] hR113 (by kernel_rfl) trivial (fun ρ114 w114 hm114 hR114 => ?_)
    have hbk := hbk.moved hm114
    refine sim_call 22 [.v (Value.pointer (some (Addr.mk g 0 none))), LI 1] (by kernel_rfl) ?_
    refine Calls.mono (get_bk _ _ _ _ _ _ hbk.bk (by unfold Is64 at *; omega)) ?_
    rintro e115 w115 ⟨rfl, hb115⟩
    have hR115 := hR114.below hb115
    have hbk := hbk.below hb115
    refine Back.of (.tup [.agg (((getM (cancelM (cancelM (pairM (addM (addM (addM [] (Tm.mk (ByteArray.mk #[80]) (ByteArray.mk #[]) (ByteArray.mk #[]) (ByteArray.mk #[]) true (ByteArray.mk #[]) (ByteArray.mk #[]) (ByteArray.mk #[]) 3 0 0 0) 1 false false).fst (Tm.mk (ByteArray.mk #[81]) (ByteArray.mk #[]) (ByteArray.mk #[]) (ByteArray.mk #[]) false (ByteArray.mk #[]) (ByteArray.mk #[]) (ByteArray.mk #[]) 3 0 0 0) 1 false false).fst (Tm.mk (ByteArray.mk #[81]) (ByteArray.mk #[]) (ByteArray.mk #[]) (ByteArray.mk #[]) false (ByteArray.mk #[]) (ByteArray.mk #[]) (ByteArray.mk #[]) 3 0 0 0) 1 false false).fst 1 2 9).fst (ByteArray.mk #[80]) 2).fst (ByteArray.mk #[81]) 3).fst 1).fst).cells.map .v), LI ((getM (cancelM (cancelM (pairM (addM (addM (addM [] (Tm.mk (ByteArray.mk #[80]) (ByteArray.mk #[]) (ByteArray.mk #[]) (ByteArray.mk #[]) true (ByteArray.mk #[]) (ByteArray.mk #[]) (ByteArray.mk #[]) 3 0 0 0) 1 false false).fst (Tm.mk (ByteArray.mk #[81]) (ByteArray.mk #[]) (ByteArray.mk #[]) (ByteArray.mk #[]) false (ByteArray.mk #[]) (ByteArray.mk #[]) (ByteArray.mk #[]) 3 0 0 0) 1 false false).fst (Tm.mk (ByteArray.mk #[81]) (ByteArray.mk #[]) (ByteArray.mk #[]) (ByteArray.mk #[]) false (ByteArray.mk #[]) (ByteArray.mk #[]) (ByteArray.mk #[]) 3 0 0 0) 1 false false).fst 1 2 9).fst (ByteArray.mk #[80]) 2).fst (ByteArray.mk #[81]) 3).fst 1).snd)]) hR115 rfl ?_
    refine sim_run 10 [] hR115 (by kernel_rfl) trivial (fun ρ116 w116 hm116 hR116 => ?_)
    have hbk := hbk.moved hm116
    refine sim_call 22 [.v (Value.pointer (some (Addr.mk g 0 none))), LI 2] (by kernel_rfl) ?_
    refine Calls.mono (get_bk _ _ _ _ _ _ hbk.bk (by unfold Is64 at *; omega)) ?_
    rintro e117 w117 ⟨rfl, hb117⟩
    have hR117 := hR116.below hb117
    have hbk := hbk.below hb117
    refine Back.of (.tup [.agg (((getM (cancelM (cancelM (pairM (addM (addM (addM [] (Tm.mk (ByteArray.mk #[80]) (ByteArray.mk #[]) (ByteArray.mk #[]) (ByteArray.mk #[]) true (ByteArray.mk #[]) (ByteArray.mk #[]) (ByteArray.mk #[]) 3 0 0 0) 1 false false).fst (Tm.mk (ByteArray.mk #[81]) (ByteArray.mk #[]) (ByteArray.mk #[]) (ByteArray.mk #[]) false (ByteArray.mk #[]) (ByteArray.mk #[]) (ByteArray.mk #[]) 3 0 0 0) 1 false false).fst (Tm.mk (ByteArray.mk #[81]) (ByteArray.mk #[]) (ByteArray.mk #[]) (ByteArray.mk #[]) false (ByteArray.mk #[]) (ByteArray.mk #[]) (ByteArray.mk #[]) 3 0 0 0) 1 false false).fst 1 2 9).fst (ByteArray.mk #[80]) 2).fst (ByteArray.mk #[81]) 3).fst 2).fst).cells.map .v), LI ((getM (cancelM (cancelM (pairM (addM (addM (addM [] (Tm.mk (ByteArray.mk #[80]) (ByteArray.mk #[]) (ByteArray.mk #[]) (ByteArray.mk #[]) true (ByteArray.mk #[]) (ByteArray.mk #[]) (ByteArray.mk #[]) 3 0 0 0) 1 false false).fst (Tm.mk (ByteArray.mk #[81]) (ByteArray.mk #[]) (ByteArray.mk #[]) (ByteArray.mk #[]) false (ByteArray.mk #[]) (ByteArray.mk #[]) (ByteArray.mk #[]) 3 0 0 0) 1 false false).fst (Tm.mk (ByteArray.mk #[81]) (ByteArray.mk #[]) (ByteArray.mk #[]) (ByteArray.mk #[]) false (ByteArray.mk #[]) (ByteArray.mk #[]) (ByteArray.mk #[]) 3 0 0 0) 1 false false).fst 1 2 9).fst (ByteArray.mk #[80]) 2).fst (ByteArray.mk #[81]) 3).fst 2).snd)]) hR117 rfl ?_
    refine sim_run 10 [] hR117 (by kernel_rfl) trivial (fun ρ118 w118 hm118 hR118 => ?_)
    have hbk := hbk.moved hm118
    refine sim_call 22 [.v (Value.pointer (some (Addr.mk g 0 none))), LI 3] (by kernel_rfl) ?_
    refine Calls.mono (get_bk _ _ _ _ _ _ hbk.bk (by unfold Is64 at *; omega)) ?_
    rintro e119 w119 ⟨rfl, hb119⟩
    have hR119 := hR118.below hb119
    have hbk := hbk.below hb119
    refine Back.of (.tup [.agg (((getM (cancelM (cancelM (pairM (addM (addM (addM [] (Tm.mk (ByteArray.mk #[80]) (ByteArray.mk #[]) (ByteArray.mk #[]) (ByteArray.mk #[]) true (ByteArray.mk #[]) (ByteArray.mk #[]) (ByteArray.mk #[]) 3 0 0 0) 1 false false).fst (Tm.mk (ByteArray.mk #[81]) (ByteArray.mk #[]) (ByteArray.mk #[]) (ByteArray.mk #[]) false (ByteArray.mk #[]) (ByteArray.mk #[]) (ByteArray.mk #[]) 3 0 0 0) 1 false false).fst (Tm.mk (ByteArray.mk #[81]) (ByteArray.mk #[]) (ByteArray.mk #[]) (ByteArray.mk #[]) false (ByteArray.mk #[]) (ByteArray.mk #[]) (ByteArray.mk #[]) 3 0 0 0) 1 false false).fst 1 2 9).fst (ByteArray.mk #[80]) 2).fst (ByteArray.mk #[81]) 3).fst 3).fst).cells.map .v), LI ((getM (cancelM (cancelM (pairM (addM (addM (addM [] (Tm.mk (ByteArray.mk #[80]) (ByteArray.mk #[]) (ByteArray.mk #[]) (ByteArray.mk #[]) true (ByteArray.mk #[]) (ByteArray.mk #[]) (ByteArray.mk #[]) 3 0 0 0) 1 false false).fst (Tm.mk (ByteArray.mk #[81]) (ByteArray.mk #[]) (ByteArray.mk #[]) (ByteArray.mk #[]) false (ByteArray.mk #[]) (ByteArray.mk #[]) (ByteArray.mk #[]) 3 0 0 0) 1 false false).fst (Tm.mk (ByteArray.mk #[81]) (ByteArray.mk #[]) (ByteArray.mk #[]) (ByteArray.mk #[]) false (ByteArray.mk #[]) (ByteArray.mk #[]) (ByteArray.mk #[]) 3 0 0 0) 1 false false).fst 1 2 9).fst (ByteArray.mk #[80]) 2).fst (ByteArray.mk #[81]) 3).fst 3).snd)]) hR119 rfl ?_
    refine sim_run 21 [] hR119 (by kernel_rfl) trivial (fun ρ120 w120 hm120 hR120 => ?_)
    have hbk := hbk.moved hm120
    refine sim_call 20 [] (by kernel_rfl) ?_
    refine Calls.mono (alive14_any _) ?_
    rintro e121 w121 ⟨rfl, hb121⟩
    have hR121 := hR120.below hb121
    have hbk := hbk.below hb121
    refine Back.of (LB true) hR121 rfl ?_
    refine sim_run 29 [] hR121 (by kernel_rfl) trivial (fun ρ122 w122 hm122 hR122 => ?_)
    have hbk := hbk.moved hm122
    refine sim_ret (LB true) hR122 (by kernel_rfl) (by kernel_rfl) ?_
    exact ⟨rfl, hR122.toBelow⟩
    
  · refine sim_run 6 [] hR (by kernel_rfl) trivial (fun ρ200 w200 hm200 hR200 => ?_)
    refine sim_call 19 [] (by kernel_rfl) ?_
    refine Calls.mono (new_any _) ?_
    rintro e201 w201 ⟨g, rfl, hg201, hb201, hbel201⟩
    have hBw := hR200.keeps.size
    have hbk := BkO.new hR200 hg201 hb201
    have hR201 := hR200.below hbel201
    refine Back.of (.v (Value.pointer (some (Addr.mk g 0 none)))) hR201 rfl ?_
    refine sim_run 14 [] hR201 (by kernel_rfl) trivial (fun ρ202 w202 hm202 hR202 => ?_)
    have hbk := hbk.moved hm202
    refine sim_call 21 [.v (Value.pointer (some (Addr.mk g 0 none))), .agg [LS (ByteArray.mk #[80]), LS (ByteArray.mk #[]), LS (ByteArray.mk #[]), LS (ByteArray.mk #[]), LB true, LS (ByteArray.mk #[]), LS (ByteArray.mk #[]), LS (ByteArray.mk #[]), LI 3, LI 0, LI 0, LI 0], LI 1, LB false, LB false] (by kernel_rfl) ?_
    refine Calls.mono (add_bk _ _ _ _ _ _ _ _ _ _ _ _ _ _ _ _ _ _ _ _ hbk.bk (by constructor <;> decide +kernel)) ?_
    rintro e203 w203 ⟨v203, rfl, hbv203, hk203, hv203⟩
    obtain ⟨hbk, hR203⟩ := hbk.after hR202 hBw hbv203 hk203 hv203 [] (by kernel_rfl) (by simp)
    refine Back.of (.tup [LI ((addM [] (Tm.mk (ByteArray.mk #[80]) (ByteArray.mk #[]) (ByteArray.mk #[]) (ByteArray.mk #[]) true (ByteArray.mk #[]) (ByteArray.mk #[]) (ByteArray.mk #[]) 3 0 0 0) 1 false false).snd.fst), LI ((addM [] (Tm.mk (ByteArray.mk #[80]) (ByteArray.mk #[]) (ByteArray.mk #[]) (ByteArray.mk #[]) true (ByteArray.mk #[]) (ByteArray.mk #[]) (ByteArray.mk #[]) 3 0 0 0) 1 false false).snd.snd)]) hR203 rfl ?_
    refine sim_run 5 [] hR203 (by kernel_rfl) trivial (fun ρ204 w204 hm204 hR204 => ?_)
    have hbk := hbk.moved hm204
    refine sim_call 21 [.v (Value.pointer (some (Addr.mk g 0 none))), .agg [LS (ByteArray.mk #[81]), LS (ByteArray.mk #[]), LS (ByteArray.mk #[]), LS (ByteArray.mk #[]), LB false, LS (ByteArray.mk #[]), LS (ByteArray.mk #[]), LS (ByteArray.mk #[]), LI 3, LI 0, LI 0, LI 0], LI 1, LB false, LB false] (by kernel_rfl) ?_
    refine Calls.mono (add_bk _ _ _ _ _ _ _ _ _ _ _ _ _ _ _ _ _ _ _ _ hbk.bk (by constructor <;> decide +kernel)) ?_
    rintro e205 w205 ⟨v205, rfl, hbv205, hk205, hv205⟩
    obtain ⟨hbk, hR205⟩ := hbk.after hR204 hBw hbv205 hk205 hv205 [] (by kernel_rfl) (by simp)
    refine Back.of (.tup [LI ((addM (addM [] (Tm.mk (ByteArray.mk #[80]) (ByteArray.mk #[]) (ByteArray.mk #[]) (ByteArray.mk #[]) true (ByteArray.mk #[]) (ByteArray.mk #[]) (ByteArray.mk #[]) 3 0 0 0) 1 false false).fst (Tm.mk (ByteArray.mk #[81]) (ByteArray.mk #[]) (ByteArray.mk #[]) (ByteArray.mk #[]) false (ByteArray.mk #[]) (ByteArray.mk #[]) (ByteArray.mk #[]) 3 0 0 0) 1 false false).snd.fst), LI ((addM (addM [] (Tm.mk (ByteArray.mk #[80]) (ByteArray.mk #[]) (ByteArray.mk #[]) (ByteArray.mk #[]) true (ByteArray.mk #[]) (ByteArray.mk #[]) (ByteArray.mk #[]) 3 0 0 0) 1 false false).fst (Tm.mk (ByteArray.mk #[81]) (ByteArray.mk #[]) (ByteArray.mk #[]) (ByteArray.mk #[]) false (ByteArray.mk #[]) (ByteArray.mk #[]) (ByteArray.mk #[]) 3 0 0 0) 1 false false).snd.snd)]) hR205 rfl ?_
    refine sim_run 5 [] hR205 (by kernel_rfl) trivial (fun ρ206 w206 hm206 hR206 => ?_)
    have hbk := hbk.moved hm206
    refine sim_call 21 [.v (Value.pointer (some (Addr.mk g 0 none))), .agg [LS (ByteArray.mk #[81]), LS (ByteArray.mk #[]), LS (ByteArray.mk #[]), LS (ByteArray.mk #[]), LB false, LS (ByteArray.mk #[]), LS (ByteArray.mk #[]), LS (ByteArray.mk #[]), LI 3, LI 0, LI 0, LI 0], LI 1, LB false, LB false] (by kernel_rfl) ?_
    refine Calls.mono (add_bk _ _ _ _ _ _ _ _ _ _ _ _ _ _ _ _ _ _ _ _ hbk.bk (by constructor <;> decide +kernel)) ?_
    rintro e207 w207 ⟨v207, rfl, hbv207, hk207, hv207⟩
    obtain ⟨hbk, hR207⟩ := hbk.after hR206 hBw hbv207 hk207 hv207 [] (by kernel_rfl) (by simp)
    refine Back.of (.tup [LI ((addM (addM (addM [] (Tm.mk (ByteArray.mk #[80]) (ByteArray.mk #[]) (ByteArray.mk #[]) (ByteArray.mk #[]) true (ByteArray.mk #[]) (ByteArray.mk #[]) (ByteArray.mk #[]) 3 0 0 0) 1 false false).fst (Tm.mk (ByteArray.mk #[81]) (ByteArray.mk #[]) (ByteArray.mk #[]) (ByteArray.mk #[]) false (ByteArray.mk #[]) (ByteArray.mk #[]) (ByteArray.mk #[]) 3 0 0 0) 1 false false).fst (Tm.mk (ByteArray.mk #[81]) (ByteArray.mk #[]) (ByteArray.mk #[]) (ByteArray.mk #[]) false (ByteArray.mk #[]) (ByteArray.mk #[]) (ByteArray.mk #[]) 3 0 0 0) 1 false false).snd.fst), LI ((addM (addM (addM [] (Tm.mk (ByteArray.mk #[80]) (ByteArray.mk #[]) (ByteArray.mk #[]) (ByteArray.mk #[]) true (ByteArray.mk #[]) (ByteArray.mk #[]) (ByteArray.mk #[]) 3 0 0 0) 1 false false).fst (Tm.mk (ByteArray.mk #[81]) (ByteArray.mk #[]) (ByteArray.mk #[]) (ByteArray.mk #[]) false (ByteArray.mk #[]) (ByteArray.mk #[]) (ByteArray.mk #[]) 3 0 0 0) 1 false false).fst (Tm.mk (ByteArray.mk #[81]) (ByteArray.mk #[]) (ByteArray.mk #[]) (ByteArray.mk #[]) false (ByteArray.mk #[]) (ByteArray.mk #[]) (ByteArray.mk #[]) 3 0 0 0) 1 false false).snd.snd)]) hR207 rfl ?_
    refine sim_run 5 [] hR207 (by kernel_rfl) trivial (fun ρ208 w208 hm208 hR208 => ?_)
    have hbk := hbk.moved hm208
    refine sim_call 24 [.v (Value.pointer (some (Addr.mk g 0 none))), LI 1, LI 2, LI 9] (by kernel_rfl) ?_
    refine Calls.mono (pair_bk _ _ _ _ _ _ _ _ hbk.bk (by unfold Is64 at *; omega) (by unfold Is64 at *; omega)) ?_
    rintro e209 w209 ⟨v209, rfl, hbv209, hk209, hv209⟩
    obtain ⟨hbk, hR209⟩ := hbk.after hR208 hBw hbv209 hk209 hv209 [] (by kernel_rfl) (by simp)
    refine Back.of (LI ((pairM (addM (addM (addM [] (Tm.mk (ByteArray.mk #[80]) (ByteArray.mk #[]) (ByteArray.mk #[]) (ByteArray.mk #[]) true (ByteArray.mk #[]) (ByteArray.mk #[]) (ByteArray.mk #[]) 3 0 0 0) 1 false false).fst (Tm.mk (ByteArray.mk #[81]) (ByteArray.mk #[]) (ByteArray.mk #[]) (ByteArray.mk #[]) false (ByteArray.mk #[]) (ByteArray.mk #[]) (ByteArray.mk #[]) 3 0 0 0) 1 false false).fst (Tm.mk (ByteArray.mk #[81]) (ByteArray.mk #[]) (ByteArray.mk #[]) (ByteArray.mk #[]) false (ByteArray.mk #[]) (ByteArray.mk #[]) (ByteArray.mk #[]) 3 0 0 0) 1 false false).fst 1 2 9).snd)) hR209 rfl ?_
    refine sim_run 3 [] hR209 (by kernel_rfl) trivial (fun ρ210 w210 hm210 hR210 => ?_)
    have hbk := hbk.moved hm210
    refine sim_call 25 [.v (Value.pointer (some (Addr.mk g 0 none))), LS (ByteArray.mk #[80]), LI 2] (by kernel_rfl) ?_
    refine Calls.mono (cancel_bk _ _ _ _ _ _ _ hbk.bk (by unfold Is64 at *; omega) (by unfold Is64; decide +kernel)) ?_
    rintro e211 w211 ⟨v211, rfl, hbv211, hk211, hv211⟩
    obtain ⟨hbk, hR211⟩ := hbk.after hR210 hBw hbv211 hk211 hv211 [] (by kernel_rfl) (by simp)
    refine Back.of (LI ((cancelM (pairM (addM (addM (addM [] (Tm.mk (ByteArray.mk #[80]) (ByteArray.mk #[]) (ByteArray.mk #[]) (ByteArray.mk #[]) true (ByteArray.mk #[]) (ByteArray.mk #[]) (ByteArray.mk #[]) 3 0 0 0) 1 false false).fst (Tm.mk (ByteArray.mk #[81]) (ByteArray.mk #[]) (ByteArray.mk #[]) (ByteArray.mk #[]) false (ByteArray.mk #[]) (ByteArray.mk #[]) (ByteArray.mk #[]) 3 0 0 0) 1 false false).fst (Tm.mk (ByteArray.mk #[81]) (ByteArray.mk #[]) (ByteArray.mk #[]) (ByteArray.mk #[]) false (ByteArray.mk #[]) (ByteArray.mk #[]) (ByteArray.mk #[]) 3 0 0 0) 1 false false).fst 1 2 9).fst (ByteArray.mk #[80]) 2).snd)) hR211 rfl ?_
    refine sim_run 4 [] hR211 (by kernel_rfl) trivial (fun ρ212 w212 hm212 hR212 => ?_)
    have hbk := hbk.moved hm212
    refine sim_call 25 [.v (Value.pointer (some (Addr.mk g 0 none))), LS (ByteArray.mk #[81]), LI 3] (by kernel_rfl) ?_
    refine Calls.mono (cancel_bk _ _ _ _ _ _ _ hbk.bk (by unfold Is64 at *; omega) (by unfold Is64; decide +kernel)) ?_
    rintro e213 w213 ⟨v213, rfl, hbv213, hk213, hv213⟩
    obtain ⟨hbk, hR213⟩ := hbk.after hR212 hBw hbv213 hk213 hv213 [] (by kernel_rfl) (by simp)
    refine Back.of (LI ((cancelM (cancelM (pairM (addM (addM (addM [] (Tm.mk (ByteArray.mk #[80]) (ByteArray.mk #[]) (ByteArray.mk #[]) (ByteArray.mk #[]) true (ByteArray.mk #[]) (ByteArray.mk #[]) (ByteArray.mk #[]) 3 0 0 0) 1 false false).fst (Tm.mk (ByteArray.mk #[81]) (ByteArray.mk #[]) (ByteArray.mk #[]) (ByteArray.mk #[]) false (ByteArray.mk #[]) (ByteArray.mk #[]) (ByteArray.mk #[]) 3 0 0 0) 1 false false).fst (Tm.mk (ByteArray.mk #[81]) (ByteArray.mk #[]) (ByteArray.mk #[]) (ByteArray.mk #[]) false (ByteArray.mk #[]) (ByteArray.mk #[]) (ByteArray.mk #[]) 3 0 0 0) 1 false false).fst 1 2 9).fst (ByteArray.mk #[80]) 2).fst (ByteArray.mk #[81]) 3).snd)) hR213 rfl ?_
    refine sim_run 27 [] hR213 (by kernel_rfl) trivial (fun ρ214 w214 hm214 hR214 => ?_)
    have hbk := hbk.moved hm214
    refine sim_call 25 [.v (Value.pointer (some (Addr.mk g 0 none))), LS (ByteArray.mk #[81]), LI 2] (by kernel_rfl) ?_
    refine Calls.mono (cancel_bk _ _ _ _ _ _ _ hbk.bk (by unfold Is64 at *; omega) (by unfold Is64; decide +kernel)) ?_
    rintro e215 w215 ⟨v215, rfl, hbv215, hk215, hv215⟩
    obtain ⟨hbk, hR215⟩ := hbk.after hR214 hBw hbv215 hk215 hv215 [] (by kernel_rfl) (by simp)
    refine Back.of (LI ((cancelM (cancelM (cancelM (pairM (addM (addM (addM [] (Tm.mk (ByteArray.mk #[80]) (ByteArray.mk #[]) (ByteArray.mk #[]) (ByteArray.mk #[]) true (ByteArray.mk #[]) (ByteArray.mk #[]) (ByteArray.mk #[]) 3 0 0 0) 1 false false).fst (Tm.mk (ByteArray.mk #[81]) (ByteArray.mk #[]) (ByteArray.mk #[]) (ByteArray.mk #[]) false (ByteArray.mk #[]) (ByteArray.mk #[]) (ByteArray.mk #[]) 3 0 0 0) 1 false false).fst (Tm.mk (ByteArray.mk #[81]) (ByteArray.mk #[]) (ByteArray.mk #[]) (ByteArray.mk #[]) false (ByteArray.mk #[]) (ByteArray.mk #[]) (ByteArray.mk #[]) 3 0 0 0) 1 false false).fst 1 2 9).fst (ByteArray.mk #[80]) 2).fst (ByteArray.mk #[81]) 3).fst (ByteArray.mk #[81]) 2).snd)) hR215 rfl ?_
    refine sim_run 4 [] hR215 (by kernel_rfl) trivial (fun ρ216 w216 hm216 hR216 => ?_)
    have hbk := hbk.moved hm216
    refine sim_call 22 [.v (Value.pointer (some (Addr.mk g 0 none))), LI 1] (by kernel_rfl) ?_
    refine Calls.mono (get_bk _ _ _ _ _ _ hbk.bk (by unfold Is64 at *; omega)) ?_
    rintro e217 w217 ⟨rfl, hb217⟩
    have hR217 := hR216.below hb217
    have hbk := hbk.below hb217
    refine Back.of (.tup [.agg (((getM (cancelM (cancelM (cancelM (pairM (addM (addM (addM [] (Tm.mk (ByteArray.mk #[80]) (ByteArray.mk #[]) (ByteArray.mk #[]) (ByteArray.mk #[]) true (ByteArray.mk #[]) (ByteArray.mk #[]) (ByteArray.mk #[]) 3 0 0 0) 1 false false).fst (Tm.mk (ByteArray.mk #[81]) (ByteArray.mk #[]) (ByteArray.mk #[]) (ByteArray.mk #[]) false (ByteArray.mk #[]) (ByteArray.mk #[]) (ByteArray.mk #[]) 3 0 0 0) 1 false false).fst (Tm.mk (ByteArray.mk #[81]) (ByteArray.mk #[]) (ByteArray.mk #[]) (ByteArray.mk #[]) false (ByteArray.mk #[]) (ByteArray.mk #[]) (ByteArray.mk #[]) 3 0 0 0) 1 false false).fst 1 2 9).fst (ByteArray.mk #[80]) 2).fst (ByteArray.mk #[81]) 3).fst (ByteArray.mk #[81]) 2).fst 1).fst).cells.map .v), LI ((getM (cancelM (cancelM (cancelM (pairM (addM (addM (addM [] (Tm.mk (ByteArray.mk #[80]) (ByteArray.mk #[]) (ByteArray.mk #[]) (ByteArray.mk #[]) true (ByteArray.mk #[]) (ByteArray.mk #[]) (ByteArray.mk #[]) 3 0 0 0) 1 false false).fst (Tm.mk (ByteArray.mk #[81]) (ByteArray.mk #[]) (ByteArray.mk #[]) (ByteArray.mk #[]) false (ByteArray.mk #[]) (ByteArray.mk #[]) (ByteArray.mk #[]) 3 0 0 0) 1 false false).fst (Tm.mk (ByteArray.mk #[81]) (ByteArray.mk #[]) (ByteArray.mk #[]) (ByteArray.mk #[]) false (ByteArray.mk #[]) (ByteArray.mk #[]) (ByteArray.mk #[]) 3 0 0 0) 1 false false).fst 1 2 9).fst (ByteArray.mk #[80]) 2).fst (ByteArray.mk #[81]) 3).fst (ByteArray.mk #[81]) 2).fst 1).snd)]) hR217 rfl ?_
    refine sim_run 10 [] hR217 (by kernel_rfl) trivial (fun ρ218 w218 hm218 hR218 => ?_)
    have hbk := hbk.moved hm218
    refine sim_call 22 [.v (Value.pointer (some (Addr.mk g 0 none))), LI 2] (by kernel_rfl) ?_
    refine Calls.mono (get_bk _ _ _ _ _ _ hbk.bk (by unfold Is64 at *; omega)) ?_
    rintro e219 w219 ⟨rfl, hb219⟩
    have hR219 := hR218.below hb219
    have hbk := hbk.below hb219
    refine Back.of (.tup [.agg (((getM (cancelM (cancelM (cancelM (pairM (addM (addM (addM [] (Tm.mk (ByteArray.mk #[80]) (ByteArray.mk #[]) (ByteArray.mk #[]) (ByteArray.mk #[]) true (ByteArray.mk #[]) (ByteArray.mk #[]) (ByteArray.mk #[]) 3 0 0 0) 1 false false).fst (Tm.mk (ByteArray.mk #[81]) (ByteArray.mk #[]) (ByteArray.mk #[]) (ByteArray.mk #[]) false (ByteArray.mk #[]) (ByteArray.mk #[]) (ByteArray.mk #[]) 3 0 0 0) 1 false false).fst (Tm.mk (ByteArray.mk #[81]) (ByteArray.mk #[]) (ByteArray.mk #[]) (ByteArray.mk #[]) false (ByteArray.mk #[]) (ByteArray.mk #[]) (ByteArray.mk #[]) 3 0 0 0) 1 false false).fst 1 2 9).fst (ByteArray.mk #[80]) 2).fst (ByteArray.mk #[81]) 3).fst (ByteArray.mk #[81]) 2).fst 2).fst).cells.map .v), LI ((getM (cancelM (cancelM (cancelM (pairM (addM (addM (addM [] (Tm.mk (ByteArray.mk #[80]) (ByteArray.mk #[]) (ByteArray.mk #[]) (ByteArray.mk #[]) true (ByteArray.mk #[]) (ByteArray.mk #[]) (ByteArray.mk #[]) 3 0 0 0) 1 false false).fst (Tm.mk (ByteArray.mk #[81]) (ByteArray.mk #[]) (ByteArray.mk #[]) (ByteArray.mk #[]) false (ByteArray.mk #[]) (ByteArray.mk #[]) (ByteArray.mk #[]) 3 0 0 0) 1 false false).fst (Tm.mk (ByteArray.mk #[81]) (ByteArray.mk #[]) (ByteArray.mk #[]) (ByteArray.mk #[]) false (ByteArray.mk #[]) (ByteArray.mk #[]) (ByteArray.mk #[]) 3 0 0 0) 1 false false).fst 1 2 9).fst (ByteArray.mk #[80]) 2).fst (ByteArray.mk #[81]) 3).fst (ByteArray.mk #[81]) 2).fst 2).snd)]) hR219 rfl ?_
    refine sim_run 10 [] hR219 (by kernel_rfl) trivial (fun ρ220 w220 hm220 hR220 => ?_)
    have hbk := hbk.moved hm220
    refine sim_call 22 [.v (Value.pointer (some (Addr.mk g 0 none))), LI 3] (by kernel_rfl) ?_
    refine Calls.mono (get_bk _ _ _ _ _ _ hbk.bk (by unfold Is64 at *; omega)) ?_
    rintro e221 w221 ⟨rfl, hb221⟩
    have hR221 := hR220.below hb221
    have hbk := hbk.below hb221
    refine Back.of (.tup [.agg (((getM (cancelM (cancelM (cancelM (pairM (addM (addM (addM [] (Tm.mk (ByteArray.mk #[80]) (ByteArray.mk #[]) (ByteArray.mk #[]) (ByteArray.mk #[]) true (ByteArray.mk #[]) (ByteArray.mk #[]) (ByteArray.mk #[]) 3 0 0 0) 1 false false).fst (Tm.mk (ByteArray.mk #[81]) (ByteArray.mk #[]) (ByteArray.mk #[]) (ByteArray.mk #[]) false (ByteArray.mk #[]) (ByteArray.mk #[]) (ByteArray.mk #[]) 3 0 0 0) 1 false false).fst (Tm.mk (ByteArray.mk #[81]) (ByteArray.mk #[]) (ByteArray.mk #[]) (ByteArray.mk #[]) false (ByteArray.mk #[]) (ByteArray.mk #[]) (ByteArray.mk #[]) 3 0 0 0) 1 false false).fst 1 2 9).fst (ByteArray.mk #[80]) 2).fst (ByteArray.mk #[81]) 3).fst (ByteArray.mk #[81]) 2).fst 3).fst).cells.map .v), LI ((getM (cancelM (cancelM (cancelM (pairM (addM (addM (addM [] (Tm.mk (ByteArray.mk #[80]) (ByteArray.mk #[]) (ByteArray.mk #[]) (ByteArray.mk #[]) true (ByteArray.mk #[]) (ByteArray.mk #[]) (ByteArray.mk #[]) 3 0 0 0) 1 false false).fst (Tm.mk (ByteArray.mk #[81]) (ByteArray.mk #[]) (ByteArray.mk #[]) (ByteArray.mk #[]) false (ByteArray.mk #[]) (ByteArray.mk #[]) (ByteArray.mk #[]) 3 0 0 0) 1 false false).fst (Tm.mk (ByteArray.mk #[81]) (ByteArray.mk #[]) (ByteArray.mk #[]) (ByteArray.mk #[]) false (ByteArray.mk #[]) (ByteArray.mk #[]) (ByteArray.mk #[]) 3 0 0 0) 1 false false).fst 1 2 9).fst (ByteArray.mk #[80]) 2).fst (ByteArray.mk #[81]) 3).fst (ByteArray.mk #[81]) 2).fst 3).snd)]) hR221 rfl ?_
    refine sim_run 21 [] hR221 (by kernel_rfl) trivial (fun ρ222 w222 hm222 hR222 => ?_)
    have hbk := hbk.moved hm222
    refine sim_call 20 [] (by kernel_rfl) ?_
    refine Calls.mono (alive14_any _) ?_
    rintro e223 w223 ⟨rfl, hb223⟩
    have hR223 := hR222.below hb223
    have hbk := hbk.below hb223
    refine Back.of (LB true) hR223 rfl ?_
    refine sim_run 29 [] hR223 (by kernel_rfl) trivial (fun ρ224 w224 hm224 hR224 => ?_)
    have hbk := hbk.moved hm224
    refine sim_ret (LB true) hR224 (by kernel_rfl) (by kernel_rfl) ?_
    exact ⟨rfl, hR224.toBelow⟩
    
  · refine sim_run 6 [] hR (by kernel_rfl) trivial (fun ρ300 w300 hm300 hR300 => ?_)
    refine sim_call 19 [] (by kernel_rfl) ?_
    refine Calls.mono (new_any _) ?_
    rintro e301 w301 ⟨g, rfl, hg301, hb301, hbel301⟩
    have hBw := hR300.keeps.size
    have hbk := BkO.new hR300 hg301 hb301
    have hR301 := hR300.below hbel301
    refine Back.of (.v (Value.pointer (some (Addr.mk g 0 none)))) hR301 rfl ?_
    refine sim_run 14 [] hR301 (by kernel_rfl) trivial (fun ρ302 w302 hm302 hR302 => ?_)
    have hbk := hbk.moved hm302
    refine sim_call 21 [.v (Value.pointer (some (Addr.mk g 0 none))), .agg [LS (ByteArray.mk #[80]), LS (ByteArray.mk #[]), LS (ByteArray.mk #[]), LS (ByteArray.mk #[]), LB true, LS (ByteArray.mk #[]), LS (ByteArray.mk #[]), LS (ByteArray.mk #[]), LI 3, LI 0, LI 0, LI 0], LI 1, LB false, LB false] (by kernel_rfl) ?_
    refine Calls.mono (add_bk _ _ _ _ _ _ _ _ _ _ _ _ _ _ _ _ _ _ _ _ hbk.bk (by constructor <;> decide +kernel)) ?_
    rintro e303 w303 ⟨v303, rfl, hbv303, hk303, hv303⟩
    obtain ⟨hbk, hR303⟩ := hbk.after hR302 hBw hbv303 hk303 hv303 [] (by kernel_rfl) (by simp)
    refine Back.of (.tup [LI ((addM [] (Tm.mk (ByteArray.mk #[80]) (ByteArray.mk #[]) (ByteArray.mk #[]) (ByteArray.mk #[]) true (ByteArray.mk #[]) (ByteArray.mk #[]) (ByteArray.mk #[]) 3 0 0 0) 1 false false).snd.fst), LI ((addM [] (Tm.mk (ByteArray.mk #[80]) (ByteArray.mk #[]) (ByteArray.mk #[]) (ByteArray.mk #[]) true (ByteArray.mk #[]) (ByteArray.mk #[]) (ByteArray.mk #[]) 3 0 0 0) 1 false false).snd.snd)]) hR303 rfl ?_
    refine sim_run 5 [] hR303 (by kernel_rfl) trivial (fun ρ304 w304 hm304 hR304 => ?_)
    have hbk := hbk.moved hm304
    refine sim_call 21 [.v (Value.pointer (some (Addr.mk g 0 none))), .agg [LS (ByteArray.mk #[81]), LS (ByteArray.mk #[]), LS (ByteArray.mk #[]), LS (ByteArray.mk #[]), LB false, LS (ByteArray.mk #[]), LS (ByteArray.mk #[]), LS (ByteArray.mk #[]), LI 3, LI 0, LI 0, LI 0], LI 1, LB false, LB false] (by kernel_rfl) ?_
    refine Calls.mono (add_bk _ _ _ _ _ _ _ _ _ _ _ _ _ _ _ _ _ _ _ _ hbk.bk (by constructor <;> decide +kernel)) ?_
    rintro e305 w305 ⟨v305, rfl, hbv305, hk305, hv305⟩
    obtain ⟨hbk, hR305⟩ := hbk.after hR304 hBw hbv305 hk305 hv305 [] (by kernel_rfl) (by simp)
    refine Back.of (.tup [LI ((addM (addM [] (Tm.mk (ByteArray.mk #[80]) (ByteArray.mk #[]) (ByteArray.mk #[]) (ByteArray.mk #[]) true (ByteArray.mk #[]) (ByteArray.mk #[]) (ByteArray.mk #[]) 3 0 0 0) 1 false false).fst (Tm.mk (ByteArray.mk #[81]) (ByteArray.mk #[]) (ByteArray.mk #[]) (ByteArray.mk #[]) false (ByteArray.mk #[]) (ByteArray.mk #[]) (ByteArray.mk #[]) 3 0 0 0) 1 false false).snd.fst), LI ((addM (addM [] (Tm.mk (ByteArray.mk #[80]) (ByteArray.mk #[]) (ByteArray.mk #[]) (ByteArray.mk #[]) true (ByteArray.mk #[]) (ByteArray.mk #[]) (ByteArray.mk #[]) 3 0 0 0) 1 false false).fst (Tm.mk (ByteArray.mk #[81]) (ByteArray.mk #[]) (ByteArray.mk #[]) (ByteArray.mk #[]) false (ByteArray.mk #[]) (ByteArray.mk #[]) (ByteArray.mk #[]) 3 0 0 0) 1 false false).snd.snd)]) hR305 rfl ?_
    refine sim_run 5 [] hR305 (by kernel_rfl) trivial (fun ρ306 w306 hm306 hR306 => ?_)
    have hbk := hbk.moved hm306
    refine sim_call 21 [.v (Value.pointer (some (Addr.mk g 0 none))), .agg [LS (ByteArray.mk #[81]), LS (ByteArray.mk #[]), LS (ByteArray.mk #[]), LS (ByteArray.mk #[]), LB false, LS (ByteArray.mk #[]), LS (ByteArray.mk #[]), LS (ByteArray.mk #[]), LI 3, LI 0, LI 0, LI 0], LI 1, LB false, LB false] (by kernel_rfl) ?_
    refine Calls.mono (add_bk _ _ _ _ _ _ _ _ _ _ _ _ _ _ _ _ _ _ _ _ hbk.bk (by constructor <;> decide +kernel)) ?_
    rintro e307 w307 ⟨v307, rfl, hbv307, hk307, hv307⟩
    obtain ⟨hbk, hR307⟩ := hbk.after hR306 hBw hbv307 hk307 hv307 [] (by kernel_rfl) (by simp)
    refine Back.of (.tup [LI ((addM (addM (addM [] (Tm.mk (ByteArray.mk #[80]) (ByteArray.mk #[]) (ByteArray.mk #[]) (ByteArray.mk #[]) true (ByteArray.mk #[]) (ByteArray.mk #[]) (ByteArray.mk #[]) 3 0 0 0) 1 false false).fst (Tm.mk (ByteArray.mk #[81]) (ByteArray.mk #[]) (ByteArray.mk #[]) (ByteArray.mk #[]) false (ByteArray.mk #[]) (ByteArray.mk #[]) (ByteArray.mk #[]) 3 0 0 0) 1 false false).fst (Tm.mk (ByteArray.mk #[81]) (ByteArray.mk #[]) (ByteArray.mk #[]) (ByteArray.mk #[]) false (ByteArray.mk #[]) (ByteArray.mk #[]) (ByteArray.mk #[]) 3 0 0 0) 1 false false).snd.fst), LI ((addM (addM (addM [] (Tm.mk (ByteArray.mk #[80]) (ByteArray.mk #[]) (ByteArray.mk #[]) (ByteArray.mk #[]) true (ByteArray.mk #[]) (ByteArray.mk #[]) (ByteArray.mk #[]) 3 0 0 0) 1 false false).fst (Tm.mk (ByteArray.mk #[81]) (ByteArray.mk #[]) (ByteArray.mk #[]) (ByteArray.mk #[]) false (ByteArray.mk #[]) (ByteArray.mk #[]) (ByteArray.mk #[]) 3 0 0 0) 1 false false).fst (Tm.mk (ByteArray.mk #[81]) (ByteArray.mk #[]) (ByteArray.mk #[]) (ByteArray.mk #[]) false (ByteArray.mk #[]) (ByteArray.mk #[]) (ByteArray.mk #[]) 3 0 0 0) 1 false false).snd.snd)]) hR307 rfl ?_
    refine sim_run 5 [] hR307 (by kernel_rfl) trivial (fun ρ308 w308 hm308 hR308 => ?_)
    have hbk := hbk.moved hm308
    refine sim_call 24 [.v (Value.pointer (some (Addr.mk g 0 none))), LI 1, LI 2, LI 9] (by kernel_rfl) ?_
    refine Calls.mono (pair_bk _ _ _ _ _ _ _ _ hbk.bk (by unfold Is64 at *; omega) (by unfold Is64 at *; omega)) ?_
    rintro e309 w309 ⟨v309, rfl, hbv309, hk309, hv309⟩
    obtain ⟨hbk, hR309⟩ := hbk.after hR308 hBw hbv309 hk309 hv309 [] (by kernel_rfl) (by simp)
    refine Back.of (LI ((pairM (addM (addM (addM [] (Tm.mk (ByteArray.mk #[80]) (ByteArray.mk #[]) (ByteArray.mk #[]) (ByteArray.mk #[]) true (ByteArray.mk #[]) (ByteArray.mk #[]) (ByteArray.mk #[]) 3 0 0 0) 1 false false).fst (Tm.mk (ByteArray.mk #[81]) (ByteArray.mk #[]) (ByteArray.mk #[]) (ByteArray.mk #[]) false (ByteArray.mk #[]) (ByteArray.mk #[]) (ByteArray.mk #[]) 3 0 0 0) 1 false false).fst (Tm.mk (ByteArray.mk #[81]) (ByteArray.mk #[]) (ByteArray.mk #[]) (ByteArray.mk #[]) false (ByteArray.mk #[]) (ByteArray.mk #[]) (ByteArray.mk #[]) 3 0 0 0) 1 false false).fst 1 2 9).snd)) hR309 rfl ?_
    refine sim_run 3 [] hR309 (by kernel_rfl) trivial (fun ρ310 w310 hm310 hR310 => ?_)
    have hbk := hbk.moved hm310
    refine sim_call 25 [.v (Value.pointer (some (Addr.mk g 0 none))), LS (ByteArray.mk #[80]), LI 2] (by kernel_rfl) ?_
    refine Calls.mono (cancel_bk _ _ _ _ _ _ _ hbk.bk (by unfold Is64 at *; omega) (by unfold Is64; decide +kernel)) ?_
    rintro e311 w311 ⟨v311, rfl, hbv311, hk311, hv311⟩
    obtain ⟨hbk, hR311⟩ := hbk.after hR310 hBw hbv311 hk311 hv311 [] (by kernel_rfl) (by simp)
    refine Back.of (LI ((cancelM (pairM (addM (addM (addM [] (Tm.mk (ByteArray.mk #[80]) (ByteArray.mk #[]) (ByteArray.mk #[]) (ByteArray.mk #[]) true (ByteArray.mk #[]) (ByteArray.mk #[]) (ByteArray.mk #[]) 3 0 0 0) 1 false false).fst (Tm.mk (ByteArray.mk #[81]) (ByteArray.mk #[]) (ByteArray.mk #[]) (ByteArray.mk #[]) false (ByteArray.mk #[]) (ByteArray.mk #[]) (ByteArray.mk #[]) 3 0 0 0) 1 false false).fst (Tm.mk (ByteArray.mk #[81]) (ByteArray.mk #[]) (ByteArray.mk #[]) (ByteArray.mk #[]) false (ByteArray.mk #[]) (ByteArray.mk #[]) (ByteArray.mk #[]) 3 0 0 0) 1 false false).fst 1 2 9).fst (ByteArray.mk #[80]) 2).snd)) hR311 rfl ?_
    refine sim_run 4 [] hR311 (by kernel_rfl) trivial (fun ρ312 w312 hm312 hR312 => ?_)
    have hbk := hbk.moved hm312
    refine sim_call 25 [.v (Value.pointer (some (Addr.mk g 0 none))), LS (ByteArray.mk #[81]), LI 3] (by kernel_rfl) ?_
    refine Calls.mono (cancel_bk _ _ _ _ _ _ _ hbk.bk (by unfold Is64 at *; omega) (by unfold Is64; decide +kernel)) ?_
    rintro e313 w313 ⟨v313, rfl, hbv313, hk313, hv313⟩
    obtain ⟨hbk, hR313⟩ := hbk.after hR312 hBw hbv313 hk313 hv313 [] (by kernel_rfl) (by simp)
    refine Back.of (LI ((cancelM (cancelM (pairM (addM (addM (addM [] (Tm.mk (ByteArray.mk #[80]) (ByteArray.mk #[]) (ByteArray.mk #[]) (ByteArray.mk #[]) true (ByteArray.mk #[]) (ByteArray.mk #[]) (ByteArray.mk #[]) 3 0 0 0) 1 false false).fst (Tm.mk (ByteArray.mk #[81]) (ByteArray.mk #[]) (ByteArray.mk #[]) (ByteArray.mk #[]) false (ByteArray.mk #[]) (ByteArray.mk #[]) (ByteArray.mk #[]) 3 0 0 0) 1 false false).fst (Tm.mk (ByteArray.mk #[81]) (ByteArray.mk #[]) (ByteArray.mk #[]) (ByteArray.mk #[]) false (ByteArray.mk #[]) (ByteArray.mk #[]) (ByteArray.mk #[]) 3 0 0 0) 1 false false).fst 1 2 9).fst (ByteArray.mk #[80]) 2).fst (ByteArray.mk #[81]) 3).snd)) hR313 rfl ?_
    refine sim_run 20 [] hR313 (by kernel_rfl) trivial (fun ρ314 w314 hm314 hR314 => ?_)
    have hbk := hbk.moved hm314
    refine sim_call 26 [.v (Value.pointer (some (Addr.mk g 0 none))), LS (ByteArray.mk #[80]), LI 1] (by kernel_rfl) ?_
    refine Calls.mono (keep_bk _ _ _ _ _ _ _ hbk.bk (by unfold Is64 at *; omega)) ?_
    rintro e315 w315 ⟨v315, rfl, hbv315, hk315, hv315⟩
    obtain ⟨hbk, hR315⟩ := hbk.after hR314 hBw hbv315 hk315 hv315 [] (by kernel_rfl) (by simp)
    refine Back.of (LI (mayM (cancelM (cancelM (pairM (addM (addM (addM [] (Tm.mk (ByteArray.mk #[80]) (ByteArray.mk #[]) (ByteArray.mk #[]) (ByteArray.mk #[]) true (ByteArray.mk #[]) (ByteArray.mk #[]) (ByteArray.mk #[]) 3 0 0 0) 1 false false).fst (Tm.mk (ByteArray.mk #[81]) (ByteArray.mk #[]) (ByteArray.mk #[]) (ByteArray.mk #[]) false (ByteArray.mk #[]) (ByteArray.mk #[]) (ByteArray.mk #[]) 3 0 0 0) 1 false false).fst (Tm.mk (ByteArray.mk #[81]) (ByteArray.mk #[]) (ByteArray.mk #[]) (ByteArray.mk #[]) false (ByteArray.mk #[]) (ByteArray.mk #[]) (ByteArray.mk #[]) 3 0 0 0) 1 false false).fst 1 2 9).fst (ByteArray.mk #[80]) 2).fst (ByteArray.mk #[81]) 3).fst (ByteArray.mk #[80]) 1)) hR315 rfl ?_
    refine sim_run 11 [] hR315 (by kernel_rfl) trivial (fun ρ316 w316 hm316 hR316 => ?_)
    have hbk := hbk.moved hm316
    refine sim_call 22 [.v (Value.pointer (some (Addr.mk g 0 none))), LI 1] (by kernel_rfl) ?_
    refine Calls.mono (get_bk _ _ _ _ _ _ hbk.bk (by unfold Is64 at *; omega)) ?_
    rintro e317 w317 ⟨rfl, hb317⟩
    have hR317 := hR316.below hb317
    have hbk := hbk.below hb317
    refine Back.of (.tup [.agg (((getM (keepM (cancelM (cancelM (pairM (addM (addM (addM [] (Tm.mk (ByteArray.mk #[80]) (ByteArray.mk #[]) (ByteArray.mk #[]) (ByteArray.mk #[]) true (ByteArray.mk #[]) (ByteArray.mk #[]) (ByteArray.mk #[]) 3 0 0 0) 1 false false).fst (Tm.mk (ByteArray.mk #[81]) (ByteArray.mk #[]) (ByteArray.mk #[]) (ByteArray.mk #[]) false (ByteArray.mk #[]) (ByteArray.mk #[]) (ByteArray.mk #[]) 3 0 0 0) 1 false false).fst (Tm.mk (ByteArray.mk #[81]) (ByteArray.mk #[]) (ByteArray.mk #[]) (ByteArray.mk #[]) false (ByteArray.mk #[]) (ByteArray.mk #[]) (ByteArray.mk #[]) 3 0 0 0) 1 false false).fst 1 2 9).fst (ByteArray.mk #[80]) 2).fst (ByteArray.mk #[81]) 3).fst (ByteArray.mk #[80]) 1) 1).fst).cells.map .v), LI ((getM (keepM (cancelM (cancelM (pairM (addM (addM (addM [] (Tm.mk (ByteArray.mk #[80]) (ByteArray.mk #[]) (ByteArray.mk #[]) (ByteArray.mk #[]) true (ByteArray.mk #[]) (ByteArray.mk #[]) (ByteArray.mk #[]) 3 0 0 0) 1 false false).fst (Tm.mk (ByteArray.mk #[81]) (ByteArray.mk #[]) (ByteArray.mk #[]) (ByteArray.mk #[]) false (ByteArray.mk #[]) (ByteArray.mk #[]) (ByteArray.mk #[]) 3 0 0 0) 1 false false).fst (Tm.mk (ByteArray.mk #[81]) (ByteArray.mk #[]) (ByteArray.mk #[]) (ByteArray.mk #[]) false (ByteArray.mk #[]) (ByteArray.mk #[]) (ByteArray.mk #[]) 3 0 0 0) 1 false false).fst 1 2 9).fst (ByteArray.mk #[80]) 2).fst (ByteArray.mk #[81]) 3).fst (ByteArray.mk #[80]) 1) 1).snd)]) hR317 rfl ?_
    refine sim_run 10 [] hR317 (by kernel_rfl) trivial (fun ρ318 w318 hm318 hR318 => ?_)
    have hbk := hbk.moved hm318
    refine sim_call 22 [.v (Value.pointer (some (Addr.mk g 0 none))), LI 2] (by kernel_rfl) ?_
    refine Calls.mono (get_bk _ _ _ _ _ _ hbk.bk (by unfold Is64 at *; omega)) ?_
    rintro e319 w319 ⟨rfl, hb319⟩
    have hR319 := hR318.below hb319
    have hbk := hbk.below hb319
    refine Back.of (.tup [.agg (((getM (keepM (cancelM (cancelM (pairM (addM (addM (addM [] (Tm.mk (ByteArray.mk #[80]) (ByteArray.mk #[]) (ByteArray.mk #[]) (ByteArray.mk #[]) true (ByteArray.mk #[]) (ByteArray.mk #[]) (ByteArray.mk #[]) 3 0 0 0) 1 false false).fst (Tm.mk (ByteArray.mk #[81]) (ByteArray.mk #[]) (ByteArray.mk #[]) (ByteArray.mk #[]) false (ByteArray.mk #[]) (ByteArray.mk #[]) (ByteArray.mk #[]) 3 0 0 0) 1 false false).fst (Tm.mk (ByteArray.mk #[81]) (ByteArray.mk #[]) (ByteArray.mk #[]) (ByteArray.mk #[]) false (ByteArray.mk #[]) (ByteArray.mk #[]) (ByteArray.mk #[]) 3 0 0 0) 1 false false).fst 1 2 9).fst (ByteArray.mk #[80]) 2).fst (ByteArray.mk #[81]) 3).fst (ByteArray.mk #[80]) 1) 2).fst).cells.map .v), LI ((getM (keepM (cancelM (cancelM (pairM (addM (addM (addM [] (Tm.mk (ByteArray.mk #[80]) (ByteArray.mk #[]) (ByteArray.mk #[]) (ByteArray.mk #[]) true (ByteArray.mk #[]) (ByteArray.mk #[]) (ByteArray.mk #[]) 3 0 0 0) 1 false false).fst (Tm.mk (ByteArray.mk #[81]) (ByteArray.mk #[]) (ByteArray.mk #[]) (ByteArray.mk #[]) false (ByteArray.mk #[]) (ByteArray.mk #[]) (ByteArray.mk #[]) 3 0 0 0) 1 false false).fst (Tm.mk (ByteArray.mk #[81]) (ByteArray.mk #[]) (ByteArray.mk #[]) (ByteArray.mk #[]) false (ByteArray.mk #[]) (ByteArray.mk #[]) (ByteArray.mk #[]) 3 0 0 0) 1 false false).fst 1 2 9).fst (ByteArray.mk #[80]) 2).fst (ByteArray.mk #[81]) 3).fst (ByteArray.mk #[80]) 1) 2).snd)]) hR319 rfl ?_
    refine sim_run 10 [] hR319 (by kernel_rfl) trivial (fun ρ320 w320 hm320 hR320 => ?_)
    have hbk := hbk.moved hm320
    refine sim_call 22 [.v (Value.pointer (some (Addr.mk g 0 none))), LI 3] (by kernel_rfl) ?_
    refine Calls.mono (get_bk _ _ _ _ _ _ hbk.bk (by unfold Is64 at *; omega)) ?_
    rintro e321 w321 ⟨rfl, hb321⟩
    have hR321 := hR320.below hb321
    have hbk := hbk.below hb321
    refine Back.of (.tup [.agg (((getM (keepM (cancelM (cancelM (pairM (addM (addM (addM [] (Tm.mk (ByteArray.mk #[80]) (ByteArray.mk #[]) (ByteArray.mk #[]) (ByteArray.mk #[]) true (ByteArray.mk #[]) (ByteArray.mk #[]) (ByteArray.mk #[]) 3 0 0 0) 1 false false).fst (Tm.mk (ByteArray.mk #[81]) (ByteArray.mk #[]) (ByteArray.mk #[]) (ByteArray.mk #[]) false (ByteArray.mk #[]) (ByteArray.mk #[]) (ByteArray.mk #[]) 3 0 0 0) 1 false false).fst (Tm.mk (ByteArray.mk #[81]) (ByteArray.mk #[]) (ByteArray.mk #[]) (ByteArray.mk #[]) false (ByteArray.mk #[]) (ByteArray.mk #[]) (ByteArray.mk #[]) 3 0 0 0) 1 false false).fst 1 2 9).fst (ByteArray.mk #[80]) 2).fst (ByteArray.mk #[81]) 3).fst (ByteArray.mk #[80]) 1) 3).fst).cells.map .v), LI ((getM (keepM (cancelM (cancelM (pairM (addM (addM (addM [] (Tm.mk (ByteArray.mk #[80]) (ByteArray.mk #[]) (ByteArray.mk #[]) (ByteArray.mk #[]) true (ByteArray.mk #[]) (ByteArray.mk #[]) (ByteArray.mk #[]) 3 0 0 0) 1 false false).fst (Tm.mk (ByteArray.mk #[81]) (ByteArray.mk #[]) (ByteArray.mk #[]) (ByteArray.mk #[]) false (ByteArray.mk #[]) (ByteArray.mk #[]) (ByteArray.mk #[]) 3 0 0 0) 1 false false).fst (Tm.mk (ByteArray.mk #[81]) (ByteArray.mk #[]) (ByteArray.mk #[]) (ByteArray.mk #[]) false (ByteArray.mk #[]) (ByteArray.mk #[]) (ByteArray.mk #[]) 3 0 0 0) 1 false false).fst 1 2 9).fst (ByteArray.mk #[80]) 2).fst (ByteArray.mk #[81]) 3).fst (ByteArray.mk #[80]) 1) 3).snd)]) hR321 rfl ?_
    refine sim_run 21 [] hR321 (by kernel_rfl) trivial (fun ρ322 w322 hm322 hR322 => ?_)
    have hbk := hbk.moved hm322
    refine sim_call 20 [] (by kernel_rfl) ?_
    refine Calls.mono (alive14_any _) ?_
    rintro e323 w323 ⟨rfl, hb323⟩
    have hR323 := hR322.below hb323
    have hbk := hbk.below hb323
    refine Back.of (LB true) hR323 rfl ?_
    refine sim_run 29 [] hR323 (by kernel_rfl) trivial (fun ρ324 w324 hm324 hR324 => ?_)
    have hbk := hbk.moved hm324
    refine sim_ret (LB true) hR324 (by kernel_rfl) (by kernel_rfl) ?_
    exact ⟨rfl, hR324.toBelow⟩
    
  · refine sim_run 6 [] hR (by kernel_rfl) trivial (fun ρ400 w400 hm400 hR400 => ?_)
    refine sim_call 19 [] (by kernel_rfl) ?_
    refine Calls.mono (new_any _) ?_
    rintro e401 w401 ⟨g, rfl, hg401, hb401, hbel401⟩
    have hBw := hR400.keeps.size
    have hbk := BkO.new hR400 hg401 hb401
    have hR401 := hR400.below hbel401
    refine Back.of (.v (Value.pointer (some (Addr.mk g 0 none)))) hR401 rfl ?_
    refine sim_run 14 [] hR401 (by kernel_rfl) trivial (fun ρ402 w402 hm402 hR402 => ?_)
    have hbk := hbk.moved hm402
    refine sim_call 21 [.v (Value.pointer (some (Addr.mk g 0 none))), .agg [LS (ByteArray.mk #[80]), LS (ByteArray.mk #[]), LS (ByteArray.mk #[]), LS (ByteArray.mk #[]), LB true, LS (ByteArray.mk #[]), LS (ByteArray.mk #[]), LS (ByteArray.mk #[]), LI 3, LI 0, LI 0, LI 0], LI 1, LB false, LB false] (by kernel_rfl) ?_
    refine Calls.mono (add_bk _ _ _ _ _ _ _ _ _ _ _ _ _ _ _ _ _ _ _ _ hbk.bk (by constructor <;> decide +kernel)) ?_
    rintro e403 w403 ⟨v403, rfl, hbv403, hk403, hv403⟩
    obtain ⟨hbk, hR403⟩ := hbk.after hR402 hBw hbv403 hk403 hv403 [] (by kernel_rfl) (by simp)
    refine Back.of (.tup [LI ((addM [] (Tm.mk (ByteArray.mk #[80]) (ByteArray.mk #[]) (ByteArray.mk #[]) (ByteArray.mk #[]) true (ByteArray.mk #[]) (ByteArray.mk #[]) (ByteArray.mk #[]) 3 0 0 0) 1 false false).snd.fst), LI ((addM [] (Tm.mk (ByteArray.mk #[80]) (ByteArray.mk #[]) (ByteArray.mk #[]) (ByteArray.mk #[]) true (ByteArray.mk #[]) (ByteArray.mk #[]) (ByteArray.mk #[]) 3 0 0 0) 1 false false).snd.snd)]) hR403 rfl ?_
    refine sim_run 5 [] hR403 (by kernel_rfl) trivial (fun ρ404 w404 hm404 hR404 => ?_)
    have hbk := hbk.moved hm404
    refine sim_call 21 [.v (Value.pointer (some (Addr.mk g 0 none))), .agg [LS (ByteArray.mk #[81]), LS (ByteArray.mk #[]), LS (ByteArray.mk #[]), LS (ByteArray.mk #[]), LB false, LS (ByteArray.mk #[]), LS (ByteArray.mk #[]), LS (ByteArray.mk #[]), LI 3, LI 0, LI 0, LI 0], LI 1, LB false, LB false] (by kernel_rfl) ?_
    refine Calls.mono (add_bk _ _ _ _ _ _ _ _ _ _ _ _ _ _ _ _ _ _ _ _ hbk.bk (by constructor <;> decide +kernel)) ?_
    rintro e405 w405 ⟨v405, rfl, hbv405, hk405, hv405⟩
    obtain ⟨hbk, hR405⟩ := hbk.after hR404 hBw hbv405 hk405 hv405 [] (by kernel_rfl) (by simp)
    refine Back.of (.tup [LI ((addM (addM [] (Tm.mk (ByteArray.mk #[80]) (ByteArray.mk #[]) (ByteArray.mk #[]) (ByteArray.mk #[]) true (ByteArray.mk #[]) (ByteArray.mk #[]) (ByteArray.mk #[]) 3 0 0 0) 1 false false).fst (Tm.mk (ByteArray.mk #[81]) (ByteArray.mk #[]) (ByteArray.mk #[]) (ByteArray.mk #[]) false (ByteArray.mk #[]) (ByteArray.mk #[]) (ByteArray.mk #[]) 3 0 0 0) 1 false false).snd.fst), LI ((addM (addM [] (Tm.mk (ByteArray.mk #[80]) (ByteArray.mk #[]) (ByteArray.mk #[]) (ByteArray.mk #[]) true (ByteArray.mk #[]) (ByteArray.mk #[]) (ByteArray.mk #[]) 3 0 0 0) 1 false false).fst (Tm.mk (ByteArray.mk #[81]) (ByteArray.mk #[]) (ByteArray.mk #[]) (ByteArray.mk #[]) false (ByteArray.mk #[]) (ByteArray.mk #[]) (ByteArray.mk #[]) 3 0 0 0) 1 false false).snd.snd)]) hR405 rfl ?_
    refine sim_run 5 [] hR405 (by kernel_rfl) trivial (fun ρ406 w406 hm406 hR406 => ?_)
    have hbk := hbk.moved hm406
    refine sim_call 21 [.v (Value.pointer (some (Addr.mk g 0 none))), .agg [LS (ByteArray.mk #[81]), LS (ByteArray.mk #[]), LS (ByteArray.mk #[]), LS (ByteArray.mk #[]), LB false, LS (ByteArray.mk #[]), LS (ByteArray.mk #[]), LS (ByteArray.mk #[]), LI 3, LI 0, LI 0, LI 0], LI 1, LB false, LB false] (by kernel_rfl) ?_
    refine Calls.mono (add_bk _ _ _ _ _ _ _ _ _ _ _ _ _ _ _ _ _ _ _ _ hbk.bk (by constructor <;> decide +kernel)) ?_
    rintro e407 w407 ⟨v407, rfl, hbv407, hk407, hv407⟩
    obtain ⟨hbk, hR407⟩ := hbk.after hR406 hBw hbv407 hk407 hv407 [] (by kernel_rfl) (by simp)
    refine Back.of (.tup [LI ((addM (addM (addM [] (Tm.mk (ByteArray.mk #[80]) (ByteArray.mk #[]) (ByteArray.mk #[]) (ByteArray.mk #[]) true (ByteArray.mk #[]) (ByteArray.mk #[]) (ByteArray.mk #[]) 3 0 0 0) 1 false false).fst (Tm.mk (ByteArray.mk #[81]) (ByteArray.mk #[]) (ByteArray.mk #[]) (ByteArray.mk #[]) false (ByteArray.mk #[]) (ByteArray.mk #[]) (ByteArray.mk #[]) 3 0 0 0) 1 false false).fst (Tm.mk (ByteArray.mk #[81]) (ByteArray.mk #[]) (ByteArray.mk #[]) (ByteArray.mk #[]) false (ByteArray.mk #[]) (ByteArray.mk #[]) (ByteArray.mk #[]) 3 0 0 0) 1 false false).snd.fst), LI ((addM (addM (addM [] (Tm.mk (ByteArray.mk #[80]) (ByteArray.mk #[]) (ByteArray.mk #[]) (ByteArray.mk #[]) true (ByteArray.mk #[]) (ByteArray.mk #[]) (ByteArray.mk #[]) 3 0 0 0) 1 false false).fst (Tm.mk (ByteArray.mk #[81]) (ByteArray.mk #[]) (ByteArray.mk #[]) (ByteArray.mk #[]) false (ByteArray.mk #[]) (ByteArray.mk #[]) (ByteArray.mk #[]) 3 0 0 0) 1 false false).fst (Tm.mk (ByteArray.mk #[81]) (ByteArray.mk #[]) (ByteArray.mk #[]) (ByteArray.mk #[]) false (ByteArray.mk #[]) (ByteArray.mk #[]) (ByteArray.mk #[]) 3 0 0 0) 1 false false).snd.snd)]) hR407 rfl ?_
    refine sim_run 5 [] hR407 (by kernel_rfl) trivial (fun ρ408 w408 hm408 hR408 => ?_)
    have hbk := hbk.moved hm408
    refine sim_call 24 [.v (Value.pointer (some (Addr.mk g 0 none))), LI 1, LI 2, LI 9] (by kernel_rfl) ?_
    refine Calls.mono (pair_bk _ _ _ _ _ _ _ _ hbk.bk (by unfold Is64 at *; omega) (by unfold Is64 at *; omega)) ?_
    rintro e409 w409 ⟨v409, rfl, hbv409, hk409, hv409⟩
    obtain ⟨hbk, hR409⟩ := hbk.after hR408 hBw hbv409 hk409 hv409 [] (by kernel_rfl) (by simp)
    refine Back.of (LI ((pairM (addM (addM (addM [] (Tm.mk (ByteArray.mk #[80]) (ByteArray.mk #[]) (ByteArray.mk #[]) (ByteArray.mk #[]) true (ByteArray.mk #[]) (ByteArray.mk #[]) (ByteArray.mk #[]) 3 0 0 0) 1 false false).fst (Tm.mk (ByteArray.mk #[81]) (ByteArray.mk #[]) (ByteArray.mk #[]) (ByteArray.mk #[]) false (ByteArray.mk #[]) (ByteArray.mk #[]) (ByteArray.mk #[]) 3 0 0 0) 1 false false).fst (Tm.mk (ByteArray.mk #[81]) (ByteArray.mk #[]) (ByteArray.mk #[]) (ByteArray.mk #[]) false (ByteArray.mk #[]) (ByteArray.mk #[]) (ByteArray.mk #[]) 3 0 0 0) 1 false false).fst 1 2 9).snd)) hR409 rfl ?_
    refine sim_run 3 [] hR409 (by kernel_rfl) trivial (fun ρ410 w410 hm410 hR410 => ?_)
    have hbk := hbk.moved hm410
    refine sim_call 25 [.v (Value.pointer (some (Addr.mk g 0 none))), LS (ByteArray.mk #[80]), LI 2] (by kernel_rfl) ?_
    refine Calls.mono (cancel_bk _ _ _ _ _ _ _ hbk.bk (by unfold Is64 at *; omega) (by unfold Is64; decide +kernel)) ?_
    rintro e411 w411 ⟨v411, rfl, hbv411, hk411, hv411⟩
    obtain ⟨hbk, hR411⟩ := hbk.after hR410 hBw hbv411 hk411 hv411 [] (by kernel_rfl) (by simp)
    refine Back.of (LI ((cancelM (pairM (addM (addM (addM [] (Tm.mk (ByteArray.mk #[80]) (ByteArray.mk #[]) (ByteArray.mk #[]) (ByteArray.mk #[]) true (ByteArray.mk #[]) (ByteArray.mk #[]) (ByteArray.mk #[]) 3 0 0 0) 1 false false).fst (Tm.mk (ByteArray.mk #[81]) (ByteArray.mk #[]) (ByteArray.mk #[]) (ByteArray.mk #[]) false (ByteArray.mk #[]) (ByteArray.mk #[]) (ByteArray.mk #[]) 3 0 0 0) 1 false false).fst (Tm.mk (ByteArray.mk #[81]) (ByteArray.mk #[]) (ByteArray.mk #[]) (ByteArray.mk #[]) false (ByteArray.mk #[]) (ByteArray.mk #[]) (ByteArray.mk #[]) 3 0 0 0) 1 false false).fst 1 2 9).fst (ByteArray.mk #[80]) 2).snd)) hR411 rfl ?_
    refine sim_run 4 [] hR411 (by kernel_rfl) trivial (fun ρ412 w412 hm412 hR412 => ?_)
    have hbk := hbk.moved hm412
    refine sim_call 25 [.v (Value.pointer (some (Addr.mk g 0 none))), LS (ByteArray.mk #[81]), LI 3] (by kernel_rfl) ?_
    refine Calls.mono (cancel_bk _ _ _ _ _ _ _ hbk.bk (by unfold Is64 at *; omega) (by unfold Is64; decide +kernel)) ?_
    rintro e413 w413 ⟨v413, rfl, hbv413, hk413, hv413⟩
    obtain ⟨hbk, hR413⟩ := hbk.after hR412 hBw hbv413 hk413 hv413 [] (by kernel_rfl) (by simp)
    refine Back.of (LI ((cancelM (cancelM (pairM (addM (addM (addM [] (Tm.mk (ByteArray.mk #[80]) (ByteArray.mk #[]) (ByteArray.mk #[]) (ByteArray.mk #[]) true (ByteArray.mk #[]) (ByteArray.mk #[]) (ByteArray.mk #[]) 3 0 0 0) 1 false false).fst (Tm.mk (ByteArray.mk #[81]) (ByteArray.mk #[]) (ByteArray.mk #[]) (ByteArray.mk #[]) false (ByteArray.mk #[]) (ByteArray.mk #[]) (ByteArray.mk #[]) 3 0 0 0) 1 false false).fst (Tm.mk (ByteArray.mk #[81]) (ByteArray.mk #[]) (ByteArray.mk #[]) (ByteArray.mk #[]) false (ByteArray.mk #[]) (ByteArray.mk #[]) (ByteArray.mk #[]) 3 0 0 0) 1 false false).fst 1 2 9).fst (ByteArray.mk #[80]) 2).fst (ByteArray.mk #[81]) 3).snd)) hR413 rfl ?_
    refine sim_run 20 [] hR413 (by kernel_rfl) trivial (fun ρ414 w414 hm414 hR414 => ?_)
    have hbk := hbk.moved hm414
    refine sim_call 26 [.v (Value.pointer (some (Addr.mk g 0 none))), LS (ByteArray.mk #[80]), LI 1] (by kernel_rfl) ?_
    refine Calls.mono (keep_bk _ _ _ _ _ _ _ hbk.bk (by unfold Is64 at *; omega)) ?_
    rintro e415 w415 ⟨v415, rfl, hbv415, hk415, hv415⟩
    obtain ⟨hbk, hR415⟩ := hbk.after hR414 hBw hbv415 hk415 hv415 [] (by kernel_rfl) (by simp)
    refine Back.of (LI (mayM (cancelM (cancelM (pairM (addM (addM (addM [] (Tm.mk (ByteArray.mk #[80]) (ByteArray.mk #[]) (ByteArray.mk #[]) (ByteArray.mk #[]) true (ByteArray.mk #[]) (ByteArray.mk #[]) (ByteArray.mk #[]) 3 0 0 0) 1 false false).fst (Tm.mk (ByteArray.mk #[81]) (ByteArray.mk #[]) (ByteArray.mk #[]) (ByteArray.mk #[]) false (ByteArray.mk #[]) (ByteArray.mk #[]) (ByteArray.mk #[]) 3 0 0 0) 1 false false).fst (Tm.mk (ByteArray.mk #[81]) (ByteArray.mk #[]) (ByteArray.mk #[]) (ByteArray.mk #[]) false (ByteArray.mk #[]) (ByteArray.mk #[]) (ByteArray.mk #[]) 3 0 0 0) 1 false false).fst 1 2 9).fst (ByteArray.mk #[80]) 2).fst (ByteArray.mk #[81]) 3).fst (ByteArray.mk #[80]) 1)) hR415 rfl ?_
    refine sim_run 9 [] hR415 (by kernel_rfl) trivial (fun ρ416 w416 hm416 hR416 => ?_)
    have hbk := hbk.moved hm416
    refine sim_call 25 [.v (Value.pointer (some (Addr.mk g 0 none))), LS (ByteArray.mk #[81]), LI 2] (by kernel_rfl) ?_
    refine Calls.mono (cancel_bk _ _ _ _ _ _ _ hbk.bk (by unfold Is64 at *; omega) (by unfold Is64; decide +kernel)) ?_
    rintro e417 w417 ⟨v417, rfl, hbv417, hk417, hv417⟩
    obtain ⟨hbk, hR417⟩ := hbk.after hR416 hBw hbv417 hk417 hv417 [] (by kernel_rfl) (by simp)
    refine Back.of (LI ((cancelM (keepM (cancelM (cancelM (pairM (addM (addM (addM [] (Tm.mk (ByteArray.mk #[80]) (ByteArray.mk #[]) (ByteArray.mk #[]) (ByteArray.mk #[]) true (ByteArray.mk #[]) (ByteArray.mk #[]) (ByteArray.mk #[]) 3 0 0 0) 1 false false).fst (Tm.mk (ByteArray.mk #[81]) (ByteArray.mk #[]) (ByteArray.mk #[]) (ByteArray.mk #[]) false (ByteArray.mk #[]) (ByteArray.mk #[]) (ByteArray.mk #[]) 3 0 0 0) 1 false false).fst (Tm.mk (ByteArray.mk #[81]) (ByteArray.mk #[]) (ByteArray.mk #[]) (ByteArray.mk #[]) false (ByteArray.mk #[]) (ByteArray.mk #[]) (ByteArray.mk #[]) 3 0 0 0) 1 false false).fst 1 2 9).fst (ByteArray.mk #[80]) 2).fst (ByteArray.mk #[81]) 3).fst (ByteArray.mk #[80]) 1) (ByteArray.mk #[81]) 2).snd)) hR417 rfl ?_
    refine sim_run 4 [] hR417 (by kernel_rfl) trivial (fun ρ418 w418 hm418 hR418 => ?_)
    have hbk := hbk.moved hm418
    refine sim_call 22 [.v (Value.pointer (some (Addr.mk g 0 none))), LI 1] (by kernel_rfl) ?_
    refine Calls.mono (get_bk _ _ _ _ _ _ hbk.bk (by unfold Is64 at *; omega)) ?_
    rintro e419 w419 ⟨rfl, hb419⟩
    have hR419 := hR418.below hb419
    have hbk := hbk.below hb419
    refine Back.of (.tup [.agg (((getM (cancelM (keepM (cancelM (cancelM (pairM (addM (addM (addM [] (Tm.mk (ByteArray.mk #[80]) (ByteArray.mk #[]) (ByteArray.mk #[]) (ByteArray.mk #[]) true (ByteArray.mk #[]) (ByteArray.mk #[]) (ByteArray.mk #[]) 3 0 0 0) 1 false false).fst (Tm.mk (ByteArray.mk #[81]) (ByteArray.mk #[]) (ByteArray.mk #[]) (ByteArray.mk #[]) false (ByteArray.mk #[]) (ByteArray.mk #[]) (ByteArray.mk #[]) 3 0 0 0) 1 false false).fst (Tm.mk (ByteArray.mk #[81]) (ByteArray.mk #[]) (ByteArray.mk #[]) (ByteArray.mk #[]) false (ByteArray.mk #[]) (ByteArray.mk #[]) (ByteArray.mk #[]) 3 0 0 0) 1 false false).fst 1 2 9).fst (ByteArray.mk #[80]) 2).fst (ByteArray.mk #[81]) 3).fst (ByteArray.mk #[80]) 1) (ByteArray.mk #[81]) 2).fst 1).fst).cells.map .v), LI ((getM (cancelM (keepM (cancelM (cancelM (pairM (addM (addM (addM [] (Tm.mk (ByteArray.mk #[80]) (ByteArray.mk #[]) (ByteArray.mk #[]) (ByteArray.mk #[]) true (ByteArray.mk #[]) (ByteArray.mk #[]) (ByteArray.mk #[]) 3 0 0 0) 1 false false).fst (Tm.mk (ByteArray.mk #[81]) (ByteArray.mk #[]) (ByteArray.mk #[]) (ByteArray.mk #[]) false (ByteArray.mk #[]) (ByteArray.mk #[]) (ByteArray.mk #[]) 3 0 0 0) 1 false false).fst (Tm.mk (ByteArray.mk #[81]) (ByteArray.mk #[]) (ByteArray.mk #[]) (ByteArray.mk #[]) false (ByteArray.mk #[]) (ByteArray.mk #[]) (ByteArray.mk #[]) 3 0 0 0) 1 false false).fst 1 2 9).fst (ByteArray.mk #[80]) 2).fst (ByteArray.mk #[81]) 3).fst (ByteArray.mk #[80]) 1) (ByteArray.mk #[81]) 2).fst 1).snd)]) hR419 rfl ?_
    refine sim_run 10 [] hR419 (by kernel_rfl) trivial (fun ρ420 w420 hm420 hR420 => ?_)
    have hbk := hbk.moved hm420
    refine sim_call 22 [.v (Value.pointer (some (Addr.mk g 0 none))), LI 2] (by kernel_rfl) ?_
    refine Calls.mono (get_bk _ _ _ _ _ _ hbk.bk (by unfold Is64 at *; omega)) ?_
    rintro e421 w421 ⟨rfl, hb421⟩
    have hR421 := hR420.below hb421
    have hbk := hbk.below hb421
    refine Back.of (.tup [.agg (((getM (cancelM (keepM (cancelM (cancelM (pairM (addM (addM (addM [] (Tm.mk (ByteArray.mk #[80]) (ByteArray.mk #[]) (ByteArray.mk #[]) (ByteArray.mk #[]) true (ByteArray.mk #[]) (ByteArray.mk #[]) (ByteArray.mk #[]) 3 0 0 0) 1 false false).fst (Tm.mk (ByteArray.mk #[81]) (ByteArray.mk #[]) (ByteArray.mk #[]) (ByteArray.mk #[]) false (ByteArray.mk #[]) (ByteArray.mk #[]) (ByteArray.mk #[]) 3 0 0 0) 1 false false).fst (Tm.mk (ByteArray.mk #[81]) (ByteArray.mk #[]) (ByteArray.mk #[]) (ByteArray.mk #[]) false (ByteArray.mk #[]) (ByteArray.mk #[]) (ByteArray.mk #[]) 3 0 0 0) 1 false false).fst 1 2 9).fst (ByteArray.mk #[80]) 2).fst (ByteArray.mk #[81]) 3).fst (ByteArray.mk #[80]) 1) (ByteArray.mk #[81]) 2).fst 2).fst).cells.map .v), LI ((getM (cancelM (keepM (cancelM (cancelM (pairM (addM (addM (addM [] (Tm.mk (ByteArray.mk #[80]) (ByteArray.mk #[]) (ByteArray.mk #[]) (ByteArray.mk #[]) true (ByteArray.mk #[]) (ByteArray.mk #[]) (ByteArray.mk #[]) 3 0 0 0) 1 false false).fst (Tm.mk (ByteArray.mk #[81]) (ByteArray.mk #[]) (ByteArray.mk #[]) (ByteArray.mk #[]) false (ByteArray.mk #[]) (ByteArray.mk #[]) (ByteArray.mk #[]) 3 0 0 0) 1 false false).fst (Tm.mk (ByteArray.mk #[81]) (ByteArray.mk #[]) (ByteArray.mk #[]) (ByteArray.mk #[]) false (ByteArray.mk #[]) (ByteArray.mk #[]) (ByteArray.mk #[]) 3 0 0 0) 1 false false).fst 1 2 9).fst (ByteArray.mk #[80]) 2).fst (ByteArray.mk #[81]) 3).fst (ByteArray.mk #[80]) 1) (ByteArray.mk #[81]) 2).fst 2).snd)]) hR421 rfl ?_
    refine sim_run 10 [] hR421 (by kernel_rfl) trivial (fun ρ422 w422 hm422 hR422 => ?_)
    have hbk := hbk.moved hm422
    refine sim_call 22 [.v (Value.pointer (some (Addr.mk g 0 none))), LI 3] (by kernel_rfl) ?_
    refine Calls.mono (get_bk _ _ _ _ _ _ hbk.bk (by unfold Is64 at *; omega)) ?_
    rintro e423 w423 ⟨rfl, hb423⟩
    have hR423 := hR422.below hb423
    have hbk := hbk.below hb423
    refine Back.of (.tup [.agg (((getM (cancelM (keepM (cancelM (cancelM (pairM (addM (addM (addM [] (Tm.mk (ByteArray.mk #[80]) (ByteArray.mk #[]) (ByteArray.mk #[]) (ByteArray.mk #[]) true (ByteArray.mk #[]) (ByteArray.mk #[]) (ByteArray.mk #[]) 3 0 0 0) 1 false false).fst (Tm.mk (ByteArray.mk #[81]) (ByteArray.mk #[]) (ByteArray.mk #[]) (ByteArray.mk #[]) false (ByteArray.mk #[]) (ByteArray.mk #[]) (ByteArray.mk #[]) 3 0 0 0) 1 false false).fst (Tm.mk (ByteArray.mk #[81]) (ByteArray.mk #[]) (ByteArray.mk #[]) (ByteArray.mk #[]) false (ByteArray.mk #[]) (ByteArray.mk #[]) (ByteArray.mk #[]) 3 0 0 0) 1 false false).fst 1 2 9).fst (ByteArray.mk #[80]) 2).fst (ByteArray.mk #[81]) 3).fst (ByteArray.mk #[80]) 1) (ByteArray.mk #[81]) 2).fst 3).fst).cells.map .v), LI ((getM (cancelM (keepM (cancelM (cancelM (pairM (addM (addM (addM [] (Tm.mk (ByteArray.mk #[80]) (ByteArray.mk #[]) (ByteArray.mk #[]) (ByteArray.mk #[]) true (ByteArray.mk #[]) (ByteArray.mk #[]) (ByteArray.mk #[]) 3 0 0 0) 1 false false).fst (Tm.mk (ByteArray.mk #[81]) (ByteArray.mk #[]) (ByteArray.mk #[]) (ByteArray.mk #[]) false (ByteArray.mk #[]) (ByteArray.mk #[]) (ByteArray.mk #[]) 3 0 0 0) 1 false false).fst (Tm.mk (ByteArray.mk #[81]) (ByteArray.mk #[]) (ByteArray.mk #[]) (ByteArray.mk #[]) false (ByteArray.mk #[]) (ByteArray.mk #[]) (ByteArray.mk #[]) 3 0 0 0) 1 false false).fst 1 2 9).fst (ByteArray.mk #[80]) 2).fst (ByteArray.mk #[81]) 3).fst (ByteArray.mk #[80]) 1) (ByteArray.mk #[81]) 2).fst 3).snd)]) hR423 rfl ?_
    refine sim_run 21 [] hR423 (by kernel_rfl) trivial (fun ρ424 w424 hm424 hR424 => ?_)
    have hbk := hbk.moved hm424
    refine sim_call 20 [] (by kernel_rfl) ?_
    refine Calls.mono (alive14_any _) ?_
    rintro e425 w425 ⟨rfl, hb425⟩
    have hR425 := hR424.below hb425
    have hbk := hbk.below hb425
    refine Back.of (LB true) hR425 rfl ?_
    refine sim_run 29 [] hR425 (by kernel_rfl) trivial (fun ρ426 w426 hm426 hR426 => ?_)
    have hbk := hbk.moved hm426
    refine sim_ret (LB true) hR426 (by kernel_rfl) (by kernel_rfl) ?_
    exact ⟨rfl, hR426.toBelow⟩
    
  · refine sim_run 6 [] hR (by kernel_rfl) trivial (fun ρ500 w500 hm500 hR500 => ?_)
    refine sim_call 19 [] (by kernel_rfl) ?_
    refine Calls.mono (new_any _) ?_
    rintro e501 w501 ⟨g, rfl, hg501, hb501, hbel501⟩
    have hBw := hR500.keeps.size
    have hbk := BkO.new hR500 hg501 hb501
    have hR501 := hR500.below hbel501
    refine Back.of (.v (Value.pointer (some (Addr.mk g 0 none)))) hR501 rfl ?_
    refine sim_run 14 [] hR501 (by kernel_rfl) trivial (fun ρ502 w502 hm502 hR502 => ?_)
    have hbk := hbk.moved hm502
    refine sim_call 21 [.v (Value.pointer (some (Addr.mk g 0 none))), .agg [LS (ByteArray.mk #[80]), LS (ByteArray.mk #[]), LS (ByteArray.mk #[]), LS (ByteArray.mk #[]), LB true, LS (ByteArray.mk #[]), LS (ByteArray.mk #[]), LS (ByteArray.mk #[]), LI 3, LI 0, LI 0, LI 0], LI 1, LB false, LB false] (by kernel_rfl) ?_
    refine Calls.mono (add_bk _ _ _ _ _ _ _ _ _ _ _ _ _ _ _ _ _ _ _ _ hbk.bk (by constructor <;> decide +kernel)) ?_
    rintro e503 w503 ⟨v503, rfl, hbv503, hk503, hv503⟩
    obtain ⟨hbk, hR503⟩ := hbk.after hR502 hBw hbv503 hk503 hv503 [] (by kernel_rfl) (by simp)
    refine Back.of (.tup [LI ((addM [] (Tm.mk (ByteArray.mk #[80]) (ByteArray.mk #[]) (ByteArray.mk #[]) (ByteArray.mk #[]) true (ByteArray.mk #[]) (ByteArray.mk #[]) (ByteArray.mk #[]) 3 0 0 0) 1 false false).snd.fst), LI ((addM [] (Tm.mk (ByteArray.mk #[80]) (ByteArray.mk #[]) (ByteArray.mk #[]) (ByteArray.mk #[]) true (ByteArray.mk #[]) (ByteArray.mk #[]) (ByteArray.mk #[]) 3 0 0 0) 1 false false).snd.snd)]) hR503 rfl ?_
    refine sim_run 5 [] hR503 (by kernel_rfl) trivial (fun ρ504 w504 hm504 hR504 => ?_)
    have hbk := hbk.moved hm504
    refine sim_call 21 [.v (Value.pointer (some (Addr.mk g 0 none))), .agg [LS (ByteArray.mk #[81]), LS (ByteArray.mk #[]), LS (ByteArray.mk #[]), LS (ByteArray.mk #[]), LB false, LS (ByteArray.mk #[]), LS (ByteArray.mk #[]), LS (ByteArray.mk #[]), LI 3, LI 0, LI 0, LI 0], LI 1, LB false, LB false] (by kernel_rfl) ?_
    refine Calls.mono (add_bk _ _ _ _ _ _ _ _ _ _ _ _ _ _ _ _ _ _ _ _ hbk.bk (by constructor <;> decide +kernel)) ?_
    rintro e505 w505 ⟨v505, rfl, hbv505, hk505, hv505⟩
    obtain ⟨hbk, hR505⟩ := hbk.after hR504 hBw hbv505 hk505 hv505 [] (by kernel_rfl) (by simp)
    refine Back.of (.tup [LI ((addM (addM [] (Tm.mk (ByteArray.mk #[80]) (ByteArray.mk #[]) (ByteArray.mk #[]) (ByteArray.mk #[]) true (ByteArray.mk #[]) (ByteArray.mk #[]) (ByteArray.mk #[]) 3 0 0 0) 1 false false).fst (Tm.mk (ByteArray.mk #[81]) (ByteArray.mk #[]) (ByteArray.mk #[]) (ByteArray.mk #[]) false (ByteArray.mk #[]) (ByteArray.mk #[]) (ByteArray.mk #[]) 3 0 0 0) 1 false false).snd.fst), LI ((addM (addM [] (Tm.mk (ByteArray.mk #[80]) (ByteArray.mk #[]) (ByteArray.mk #[]) (ByteArray.mk #[]) true (ByteArray.mk #[]) (ByteArray.mk #[]) (ByteArray.mk #[]) 3 0 0 0) 1 false false).fst (Tm.mk (ByteArray.mk #[81]) (ByteArray.mk #[]) (ByteArray.mk #[]) (ByteArray.mk #[]) false (ByteArray.mk #[]) (ByteArray.mk #[]) (ByteArray.mk #[]) 3 0 0 0) 1 false false).snd.snd)]) hR505 rfl ?_
    refine sim_run 5 [] hR505 (by kernel_rfl) trivial (fun ρ506 w506 hm506 hR506 => ?_)
    have hbk := hbk.moved hm506
    refine sim_call 21 [.v (Value.pointer (some (Addr.mk g 0 none))), .agg [LS (ByteArray.mk #[81]), LS (ByteArray.mk #[]), LS (ByteArray.mk #[]), LS (ByteArray.mk #[]), LB false, LS (ByteArray.mk #[]), LS (ByteArray.mk #[]), LS (ByteArray.mk #[]), LI 3, LI 0, LI 0, LI 0], LI 1, LB false, LB false] (by kernel_rfl) ?_
    refine Calls.mono (add_bk _ _ _ _ _ _ _ _ _ _ _ _ _ _ _ _ _ _ _ _ hbk.bk (by constructor <;> decide +kernel)) ?_
    rintro e507 w507 ⟨v507, rfl, hbv507, hk507, hv507⟩
    obtain ⟨hbk, hR507⟩ := hbk.after hR506 hBw hbv507 hk507 hv507 [] (by kernel_rfl) (by simp)
    refine Back.of (.tup [LI ((addM (addM (addM [] (Tm.mk (ByteArray.mk #[80]) (ByteArray.mk #[]) (ByteArray.mk #[]) (ByteArray.mk #[]) true (ByteArray.mk #[]) (ByteArray.mk #[]) (ByteArray.mk #[]) 3 0 0 0) 1 false false).fst (Tm.mk (ByteArray.mk #[81]) (ByteArray.mk #[]) (ByteArray.mk #[]) (ByteArray.mk #[]) false (ByteArray.mk #[]) (ByteArray.mk #[]) (ByteArray.mk #[]) 3 0 0 0) 1 false false).fst (Tm.mk (ByteArray.mk #[81]) (ByteArray.mk #[]) (ByteArray.mk #[]) (ByteArray.mk #[]) false (ByteArray.mk #[]) (ByteArray.mk #[]) (ByteArray.mk #[]) 3 0 0 0) 1 false false).snd.fst), LI ((addM (addM (addM [] (Tm.mk (ByteArray.mk #[80]) (ByteArray.mk #[]) (ByteArray.mk #[]) (ByteArray.mk #[]) true (ByteArray.mk #[]) (ByteArray.mk #[]) (ByteArray.mk #[]) 3 0 0 0) 1 false false).fst (Tm.mk (ByteArray.mk #[81]) (ByteArray.mk #[]) (ByteArray.mk #[]) (ByteArray.mk #[]) false (ByteArray.mk #[]) (ByteArray.mk #[]) (ByteArray.mk #[]) 3 0 0 0) 1 false false).fst (Tm.mk (ByteArray.mk #[81]) (ByteArray.mk #[]) (ByteArray.mk #[]) (ByteArray.mk #[]) false (ByteArray.mk #[]) (ByteArray.mk #[]) (ByteArray.mk #[]) 3 0 0 0) 1 false false).snd.snd)]) hR507 rfl ?_
    refine sim_run 5 [] hR507 (by kernel_rfl) trivial (fun ρ508 w508 hm508 hR508 => ?_)
    have hbk := hbk.moved hm508
    refine sim_call 24 [.v (Value.pointer (some (Addr.mk g 0 none))), LI 1, LI 2, LI 9] (by kernel_rfl) ?_
    refine Calls.mono (pair_bk _ _ _ _ _ _ _ _ hbk.bk (by unfold Is64 at *; omega) (by unfold Is64 at *; omega)) ?_
    rintro e509 w509 ⟨v509, rfl, hbv509, hk509, hv509⟩
    obtain ⟨hbk, hR509⟩ := hbk.after hR508 hBw hbv509 hk509 hv509 [] (by kernel_rfl) (by simp)
    refine Back.of (LI ((pairM (addM (addM (addM [] (Tm.mk (ByteArray.mk #[80]) (ByteArray.mk #[]) (ByteArray.mk #[]) (ByteArray.mk #[]) true (ByteArray.mk #[]) (ByteArray.mk #[]) (ByteArray.mk #[]) 3 0 0 0) 1 false false).fst (Tm.mk (ByteArray.mk #[81]) (ByteArray.mk #[]) (ByteArray.mk #[]) (ByteArray.mk #[]) false (ByteArray.mk #[]) (ByteArray.mk #[]) (ByteArray.mk #[]) 3 0 0 0) 1 false false).fst (Tm.mk (ByteArray.mk #[81]) (ByteArray.mk #[]) (ByteArray.mk #[]) (ByteArray.mk #[]) false (ByteArray.mk #[]) (ByteArray.mk #[]) (ByteArray.mk #[]) 3 0 0 0) 1 false false).fst 1 2 9).snd)) hR509 rfl ?_
    refine sim_run 3 [] hR509 (by kernel_rfl) trivial (fun ρ510 w510 hm510 hR510 => ?_)
    have hbk := hbk.moved hm510
    refine sim_call 25 [.v (Value.pointer (some (Addr.mk g 0 none))), LS (ByteArray.mk #[80]), LI 2] (by kernel_rfl) ?_
    refine Calls.mono (cancel_bk _ _ _ _ _ _ _ hbk.bk (by unfold Is64 at *; omega) (by unfold Is64; decide +kernel)) ?_
    rintro e511 w511 ⟨v511, rfl, hbv511, hk511, hv511⟩
    obtain ⟨hbk, hR511⟩ := hbk.after hR510 hBw hbv511 hk511 hv511 [] (by kernel_rfl) (by simp)
    refine Back.of (LI ((cancelM (pairM (addM (addM (addM [] (Tm.mk (ByteArray.mk #[80]) (ByteArray.mk #[]) (ByteArray.mk #[]) (ByteArray.mk #[]) true (ByteArray.mk #[]) (ByteArray.mk #[]) (ByteArray.mk #[]) 3 0 0 0) 1 false false).fst (Tm.mk (ByteArray.mk #[81]) (ByteArray.mk #[]) (ByteArray.mk #[]) (ByteArray.mk #[]) false (ByteArray.mk #[]) (ByteArray.mk #[]) (ByteArray.mk #[]) 3 0 0 0) 1 false false).fst (Tm.mk (ByteArray.mk #[81]) (ByteArray.mk #[]) (ByteArray.mk #[]) (ByteArray.mk #[]) false (ByteArray.mk #[]) (ByteArray.mk #[]) (ByteArray.mk #[]) 3 0 0 0) 1 false false).fst 1 2 9).fst (ByteArray.mk #[80]) 2).snd)) hR511 rfl ?_
    refine sim_run 4 [] hR511 (by kernel_rfl) trivial (fun ρ512 w512 hm512 hR512 => ?_)
    have hbk := hbk.moved hm512
    refine sim_call 25 [.v (Value.pointer (some (Addr.mk g 0 none))), LS (ByteArray.mk #[81]), LI 3] (by kernel_rfl) ?_
    refine Calls.mono (cancel_bk _ _ _ _ _ _ _ hbk.bk (by unfold Is64 at *; omega) (by unfold Is64; decide +kernel)) ?_
    rintro e513 w513 ⟨v513, rfl, hbv513, hk513, hv513⟩
    obtain ⟨hbk, hR513⟩ := hbk.after hR512 hBw hbv513 hk513 hv513 [] (by kernel_rfl) (by simp)
    refine Back.of (LI ((cancelM (cancelM (pairM (addM (addM (addM [] (Tm.mk (ByteArray.mk #[80]) (ByteArray.mk #[]) (ByteArray.mk #[]) (ByteArray.mk #[]) true (ByteArray.mk #[]) (ByteArray.mk #[]) (ByteArray.mk #[]) 3 0 0 0) 1 false false).fst (Tm.mk (ByteArray.mk #[81]) (ByteArray.mk #[]) (ByteArray.mk #[]) (ByteArray.mk #[]) false (ByteArray.mk #[]) (ByteArray.mk #[]) (ByteArray.mk #[]) 3 0 0 0) 1 false false).fst (Tm.mk (ByteArray.mk #[81]) (ByteArray.mk #[]) (ByteArray.mk #[]) (ByteArray.mk #[]) false (ByteArray.mk #[]) (ByteArray.mk #[]) (ByteArray.mk #[]) 3 0 0 0) 1 false false).fst 1 2 9).fst (ByteArray.mk #[80]) 2).fst (ByteArray.mk #[81]) 3).snd)) hR513 rfl ?_
    refine sim_run 13 [] hR513 (by kernel_rfl) trivial (fun ρ514 w514 hm514 hR514 => ?_)
    have hbk := hbk.moved hm514
    refine sim_call 25 [.v (Value.pointer (some (Addr.mk g 0 none))), LS (ByteArray.mk #[80]), LI 1] (by kernel_rfl) ?_
    refine Calls.mono (cancel_bk _ _ _ _ _ _ _ hbk.bk (by unfold Is64 at *; omega) (by unfold Is64; decide +kernel)) ?_
    rintro e515 w515 ⟨v515, rfl, hbv515, hk515, hv515⟩
    obtain ⟨hbk, hR515⟩ := hbk.after hR514 hBw hbv515 hk515 hv515 [] (by kernel_rfl) (by simp)
    refine Back.of (LI ((cancelM (cancelM (cancelM (pairM (addM (addM (addM [] (Tm.mk (ByteArray.mk #[80]) (ByteArray.mk #[]) (ByteArray.mk #[]) (ByteArray.mk #[]) true (ByteArray.mk #[]) (ByteArray.mk #[]) (ByteArray.mk #[]) 3 0 0 0) 1 false false).fst (Tm.mk (ByteArray.mk #[81]) (ByteArray.mk #[]) (ByteArray.mk #[]) (ByteArray.mk #[]) false (ByteArray.mk #[]) (ByteArray.mk #[]) (ByteArray.mk #[]) 3 0 0 0) 1 false false).fst (Tm.mk (ByteArray.mk #[81]) (ByteArray.mk #[]) (ByteArray.mk #[]) (ByteArray.mk #[]) false (ByteArray.mk #[]) (ByteArray.mk #[]) (ByteArray.mk #[]) 3 0 0 0) 1 false false).fst 1 2 9).fst (ByteArray.mk #[80]) 2).fst (ByteArray.mk #[81]) 3).fst (ByteArray.mk #[80]) 1).snd)) hR515 rfl ?_
    refine sim_run 18 [] hR515 (by kernel_rfl) trivial (fun ρ516 w516 hm516 hR516 => ?_)
    have hbk := hbk.moved hm516
    refine sim_call 22 [.v (Value.pointer (some (Addr.mk g 0 none))), LI 1] (by kernel_rfl) ?_
    refine Calls.mono (get_bk _ _ _ _ _ _ hbk.bk (by unfold Is64 at *; omega)) ?_
    rintro e517 w517 ⟨rfl, hb517⟩
    have hR517 := hR516.below hb517
    have hbk := hbk.below hb517
    refine Back.of (.tup [.agg (((getM (cancelM (cancelM (cancelM (pairM (addM (addM (addM [] (Tm.mk (ByteArray.mk #[80]) (ByteArray.mk #[]) (ByteArray.mk #[]) (ByteArray.mk #[]) true (ByteArray.mk #[]) (ByteArray.mk #[]) (ByteArray.mk #[]) 3 0 0 0) 1 false false).fst (Tm.mk (ByteArray.mk #[81]) (ByteArray.mk #[]) (ByteArray.mk #[]) (ByteArray.mk #[]) false (ByteArray.mk #[]) (ByteArray.mk #[]) (ByteArray.mk #[]) 3 0 0 0) 1 false false).fst (Tm.mk (ByteArray.mk #[81]) (ByteArray.mk #[]) (ByteArray.mk #[]) (ByteArray.mk #[]) false (ByteArray.mk #[]) (ByteArray.mk #[]) (ByteArray.mk #[]) 3 0 0 0) 1 false false).fst 1 2 9).fst (ByteArray.mk #[80]) 2).fst (ByteArray.mk #[81]) 3).fst (ByteArray.mk #[80]) 1).fst 1).fst).cells.map .v), LI ((getM (cancelM (cancelM (cancelM (pairM (addM (addM (addM [] (Tm.mk (ByteArray.mk #[80]) (ByteArray.mk #[]) (ByteArray.mk #[]) (ByteArray.mk #[]) true (ByteArray.mk #[]) (ByteArray.mk #[]) (ByteArray.mk #[]) 3 0 0 0) 1 false false).fst (Tm.mk (ByteArray.mk #[81]) (ByteArray.mk #[]) (ByteArray.mk #[]) (ByteArray.mk #[]) false (ByteArray.mk #[]) (ByteArray.mk #[]) (ByteArray.mk #[]) 3 0 0 0) 1 false false).fst (Tm.mk (ByteArray.mk #[81]) (ByteArray.mk #[]) (ByteArray.mk #[]) (ByteArray.mk #[]) false (ByteArray.mk #[]) (ByteArray.mk #[]) (ByteArray.mk #[]) 3 0 0 0) 1 false false).fst 1 2 9).fst (ByteArray.mk #[80]) 2).fst (ByteArray.mk #[81]) 3).fst (ByteArray.mk #[80]) 1).fst 1).snd)]) hR517 rfl ?_
    refine sim_run 10 [] hR517 (by kernel_rfl) trivial (fun ρ518 w518 hm518 hR518 => ?_)
    have hbk := hbk.moved hm518
    refine sim_call 22 [.v (Value.pointer (some (Addr.mk g 0 none))), LI 2] (by kernel_rfl) ?_
    refine Calls.mono (get_bk _ _ _ _ _ _ hbk.bk (by unfold Is64 at *; omega)) ?_
    rintro e519 w519 ⟨rfl, hb519⟩
    have hR519 := hR518.below hb519
    have hbk := hbk.below hb519
    refine Back.of (.tup [.agg (((getM (cancelM (cancelM (cancelM (pairM (addM (addM (addM [] (Tm.mk (ByteArray.mk #[80]) (ByteArray.mk #[]) (ByteArray.mk #[]) (ByteArray.mk #[]) true (ByteArray.mk #[]) (ByteArray.mk #[]) (ByteArray.mk #[]) 3 0 0 0) 1 false false).fst (Tm.mk (ByteArray.mk #[81]) (ByteArray.mk #[]) (ByteArray.mk #[]) (ByteArray.mk #[]) false (ByteArray.mk #[]) (ByteArray.mk #[]) (ByteArray.mk #[]) 3 0 0 0) 1 false false).fst (Tm.mk (ByteArray.mk #[81]) (ByteArray.mk #[]) (ByteArray.mk #[]) (ByteArray.mk #[]) false (ByteArray.mk #[]) (ByteArray.mk #[]) (ByteArray.mk #[]) 3 0 0 0) 1 false false).fst 1 2 9).fst (ByteArray.mk #[80]) 2).fst (ByteArray.mk #[81]) 3).fst (ByteArray.mk #[80]) 1).fst 2).fst).cells.map .v), LI ((getM (cancelM (cancelM (cancelM (pairM (addM (addM (addM [] (Tm.mk (ByteArray.mk #[80]) (ByteArray.mk #[]) (ByteArray.mk #[]) (ByteArray.mk #[]) true (ByteArray.mk #[]) (ByteArray.mk #[]) (ByteArray.mk #[]) 3 0 0 0) 1 false false).fst (Tm.mk (ByteArray.mk #[81]) (ByteArray.mk #[]) (ByteArray.mk #[]) (ByteArray.mk #[]) false (ByteArray.mk #[]) (ByteArray.mk #[]) (ByteArray.mk #[]) 3 0 0 0) 1 false false).fst (Tm.mk (ByteArray.mk #[81]) (ByteArray.mk #[]) (ByteArray.mk #[]) (ByteArray.mk #[]) false (ByteArray.mk #[]) (ByteArray.mk #[]) (ByteArray.mk #[]) 3 0 0 0) 1 false false).fst 1 2 9).fst (ByteArray.mk #[80]) 2).fst (ByteArray.mk #[81]) 3).fst (ByteArray.mk #[80]) 1).fst 2).snd)]) hR519 rfl ?_
    refine sim_run 10 [] hR519 (by kernel_rfl) trivial (fun ρ520 w520 hm520 hR520 => ?_)
    have hbk := hbk.moved hm520
    refine sim_call 22 [.v (Value.pointer (some (Addr.mk g 0 none))), LI 3] (by kernel_rfl) ?_
    refine Calls.mono (get_bk _ _ _ _ _ _ hbk.bk (by unfold Is64 at *; omega)) ?_
    rintro e521 w521 ⟨rfl, hb521⟩
    have hR521 := hR520.below hb521
    have hbk := hbk.below hb521
    refine Back.of (.tup [.agg (((getM (cancelM (cancelM (cancelM (pairM (addM (addM (addM [] (Tm.mk (ByteArray.mk #[80]) (ByteArray.mk #[]) (ByteArray.mk #[]) (ByteArray.mk #[]) true (ByteArray.mk #[]) (ByteArray.mk #[]) (ByteArray.mk #[]) 3 0 0 0) 1 false false).fst (Tm.mk (ByteArray.mk #[81]) (ByteArray.mk #[]) (ByteArray.mk #[]) (ByteArray.mk #[]) false (ByteArray.mk #[]) (ByteArray.mk #[]) (ByteArray.mk #[]) 3 0 0 0) 1 false false).fst (Tm.mk (ByteArray.mk #[81]) (ByteArray.mk #[]) (ByteArray.mk #[]) (ByteArray.mk #[]) false (ByteArray.mk #[]) (ByteArray.mk #[]) (ByteArray.mk #[]) 3 0 0 0) 1 false false).fst 1 2 9).fst (ByteArray.mk #[80]) 2).fst (ByteArray.mk #[81]) 3).fst (ByteArray.mk #[80]) 1).fst 3).fst).cells.map .v), LI ((getM (cancelM (cancelM (cancelM (pairM (addM (addM (addM [] (Tm.mk (ByteArray.mk #[80]) (ByteArray.mk #[]) (ByteArray.mk #[]) (ByteArray.mk #[]) true (ByteArray.mk #[]) (ByteArray.mk #[]) (ByteArray.mk #[]) 3 0 0 0) 1 false false).fst (Tm.mk (ByteArray.mk #[81]) (ByteArray.mk #[]) (ByteArray.mk #[]) (ByteArray.mk #[]) false (ByteArray.mk #[]) (ByteArray.mk #[]) (ByteArray.mk #[]) 3 0 0 0) 1 false false).fst (Tm.mk (ByteArray.mk #[81]) (ByteArray.mk #[]) (ByteArray.mk #[]) (ByteArray.mk #[]) false (ByteArray.mk #[]) (ByteArray.mk #[]) (ByteArray.mk #[]) 3 0 0 0) 1 false false).fst 1 2 9).fst (ByteArray.mk #[80]) 2).fst (ByteArray.mk #[81]) 3).fst (ByteArray.mk #[80]) 1).fst 3).snd)]) hR521 rfl ?_
    refine sim_run 21 [] hR521 (by kernel_rfl) trivial (fun ρ522 w522 hm522 hR522 => ?_)
    have hbk := hbk.moved hm522
    refine sim_call 20 [] (by kernel_rfl) ?_
    refine Calls.mono (alive14_any _) ?_
    rintro e523 w523 ⟨rfl, hb523⟩
    have hR523 := hR522.below hb523
    have hbk := hbk.below hb523
    refine Back.of (LB true) hR523 rfl ?_
    refine sim_run 29 [] hR523 (by kernel_rfl) trivial (fun ρ524 w524 hm524 hR524 => ?_)
    have hbk := hbk.moved hm524
    refine sim_ret (LB true) hR524 (by kernel_rfl) (by kernel_rfl) ?_
    exact ⟨rfl, hR524.toBelow⟩
    
  · refine sim_run 6 [] hR (by kernel_rfl) trivial (fun ρ600 w600 hm600 hR600 => ?_)
    refine sim_call 19 [] (by kernel_rfl) ?_
    refine Calls.mono (new_any _) ?_
    rintro e601 w601 ⟨g, rfl, hg601, hb601, hbel601⟩
    have hBw := hR600.keeps.size
    have hbk := BkO.new hR600 hg601 hb601
    have hR601 := hR600.below hbel601
    refine Back.of (.v (Value.pointer (some (Addr.mk g 0 none)))) hR601 rfl ?_
    refine sim_run 14 [] hR601 (by kernel_rfl) trivial (fun ρ602 w602 hm602 hR602 => ?_)
    have hbk := hbk.moved hm602
    refine sim_call 21 [.v (Value.pointer (some (Addr.mk g 0 none))), .agg [LS (ByteArray.mk #[80]), LS (ByteArray.mk #[]), LS (ByteArray.mk #[]), LS (ByteArray.mk #[]), LB true, LS (ByteArray.mk #[]), LS (ByteArray.mk #[]), LS (ByteArray.mk #[]), LI 3, LI 0, LI 0, LI 0], LI 1, LB false, LB false] (by kernel_rfl) ?_
    refine Calls.mono (add_bk _ _ _ _ _ _ _ _ _ _ _ _ _ _ _ _ _ _ _ _ hbk.bk (by constructor <;> decide +kernel)) ?_
    rintro e603 w603 ⟨v603, rfl, hbv603, hk603, hv603⟩
    obtain ⟨hbk, hR603⟩ := hbk.after hR602 hBw hbv603 hk603 hv603 [] (by kernel_rfl) (by simp)
    refine Back.of (.tup [LI ((addM [] (Tm.mk (ByteArray.mk #[80]) (ByteArray.mk #[]) (ByteArray.mk #[]) (ByteArray.mk #[]) true (ByteArray.mk #[]) (ByteArray.mk #[]) (ByteArray.mk #[]) 3 0 0 0) 1 false false).snd.fst), LI ((addM [] (Tm.mk (ByteArray.mk #[80]) (ByteArray.mk #[]) (ByteArray.mk #[]) (ByteArray.mk #[]) true (ByteArray.mk #[]) (ByteArray.mk #[]) (ByteArray.mk #[]) 3 0 0 0) 1 false false).snd.snd)]) hR603 rfl ?_
    refine sim_run 5 [] hR603 (by kernel_rfl) trivial (fun ρ604 w604 hm604 hR604 => ?_)
    have hbk := hbk.moved hm604
    refine sim_call 21 [.v (Value.pointer (some (Addr.mk g 0 none))), .agg [LS (ByteArray.mk #[81]), LS (ByteArray.mk #[]), LS (ByteArray.mk #[]), LS (ByteArray.mk #[]), LB false, LS (ByteArray.mk #[]), LS (ByteArray.mk #[]), LS (ByteArray.mk #[]), LI 3, LI 0, LI 0, LI 0], LI 1, LB false, LB false] (by kernel_rfl) ?_
    refine Calls.mono (add_bk _ _ _ _ _ _ _ _ _ _ _ _ _ _ _ _ _ _ _ _ hbk.bk (by constructor <;> decide +kernel)) ?_
    rintro e605 w605 ⟨v605, rfl, hbv605, hk605, hv605⟩
    obtain ⟨hbk, hR605⟩ := hbk.after hR604 hBw hbv605 hk605 hv605 [] (by kernel_rfl) (by simp)
    refine Back.of (.tup [LI ((addM (addM [] (Tm.mk (ByteArray.mk #[80]) (ByteArray.mk #[]) (ByteArray.mk #[]) (ByteArray.mk #[]) true (ByteArray.mk #[]) (ByteArray.mk #[]) (ByteArray.mk #[]) 3 0 0 0) 1 false false).fst (Tm.mk (ByteArray.mk #[81]) (ByteArray.mk #[]) (ByteArray.mk #[]) (ByteArray.mk #[]) false (ByteArray.mk #[]) (ByteArray.mk #[]) (ByteArray.mk #[]) 3 0 0 0) 1 false false).snd.fst), LI ((addM (addM [] (Tm.mk (ByteArray.mk #[80]) (ByteArray.mk #[]) (ByteArray.mk #[]) (ByteArray.mk #[]) true (ByteArray.mk #[]) (ByteArray.mk #[]) (ByteArray.mk #[]) 3 0 0 0) 1 false false).fst (Tm.mk (ByteArray.mk #[81]) (ByteArray.mk #[]) (ByteArray.mk #[]) (ByteArray.mk #[]) false (ByteArray.mk #[]) (ByteArray.mk #[]) (ByteArray.mk #[]) 3 0 0 0) 1 false false).snd.snd)]) hR605 rfl ?_
    refine sim_run 5 [] hR605 (by kernel_rfl) trivial (fun ρ606 w606 hm606 hR606 => ?_)
    have hbk := hbk.moved hm606
    refine sim_call 21 [.v (Value.pointer (some (Addr.mk g 0 none))), .agg [LS (ByteArray.mk #[81]), LS (ByteArray.mk #[]), LS (ByteArray.mk #[]), LS (ByteArray.mk #[]), LB false, LS (ByteArray.mk #[]), LS (ByteArray.mk #[]), LS (ByteArray.mk #[]), LI 3, LI 0, LI 0, LI 0], LI 1, LB false, LB false] (by kernel_rfl) ?_
    refine Calls.mono (add_bk _ _ _ _ _ _ _ _ _ _ _ _ _ _ _ _ _ _ _ _ hbk.bk (by constructor <;> decide +kernel)) ?_
    rintro e607 w607 ⟨v607, rfl, hbv607, hk607, hv607⟩
    obtain ⟨hbk, hR607⟩ := hbk.after hR606 hBw hbv607 hk607 hv607 [] (by kernel_rfl) (by simp)
    refine Back.of (.tup [LI ((addM (addM (addM [] (Tm.mk (ByteArray.mk #[80]) (ByteArray.mk #[]) (ByteArray.mk #[]) (ByteArray.mk #[]) true (ByteArray.mk #[]) (ByteArray.mk #[]) (ByteArray.mk #[]) 3 0 0 0) 1 false false).fst (Tm.mk (ByteArray.mk #[81]) (ByteArray.mk #[]) (ByteArray.mk #[]) (ByteArray.mk #[]) false (ByteArray.mk #[]) (ByteArray.mk #[]) (ByteArray.mk #[]) 3 0 0 0) 1 false false).fst (Tm.mk (ByteArray.mk #[81]) (ByteArray.mk #[]) (ByteArray.mk #[]) (ByteArray.mk #[]) false (ByteArray.mk #[]) (ByteArray.mk #[]) (ByteArray.mk #[]) 3 0 0 0) 1 false false).snd.fst), LI ((addM (addM (addM [] (Tm.mk (ByteArray.mk #[80]) (ByteArray.mk #[]) (ByteArray.mk #[]) (ByteArray.mk #[]) true (ByteArray.mk #[]) (ByteArray.mk #[]) (ByteArray.mk #[]) 3 0 0 0) 1 false false).fst (Tm.mk (ByteArray.mk #[81]) (ByteArray.mk #[]) (ByteArray.mk #[]) (ByteArray.mk #[]) false (ByteArray.mk #[]) (ByteArray.mk #[]) (ByteArray.mk #[]) 3 0 0 0) 1 false false).fst (Tm.mk (ByteArray.mk #[81]) (ByteArray.mk #[]) (ByteArray.mk #[]) (ByteArray.mk #[]) false (ByteArray.mk #[]) (ByteArray.mk #[]) (ByteArray.mk #[]) 3 0 0 0) 1 false false).snd.snd)]) hR607 rfl ?_
    refine sim_run 5 [] hR607 (by kernel_rfl) trivial (fun ρ608 w608 hm608 hR608 => ?_)
    have hbk := hbk.moved hm608
    refine sim_call 24 [.v (Value.pointer (some (Addr.mk g 0 none))), LI 1, LI 2, LI 9] (by kernel_rfl) ?_
    refine Calls.mono (pair_bk _ _ _ _ _ _ _ _ hbk.bk (by unfold Is64 at *; omega) (by unfold Is64 at *; omega)) ?_
    rintro e609 w609 ⟨v609, rfl, hbv609, hk609, hv609⟩
    obtain ⟨hbk, hR609⟩ := hbk.after hR608 hBw hbv609 hk609 hv609 [] (by kernel_rfl) (by simp)
    refine Back.of (LI ((pairM (addM (addM (addM [] (Tm.mk (ByteArray.mk #[80]) (ByteArray.mk #[]) (ByteArray.mk #[]) (ByteArray.mk #[]) true (ByteArray.mk #[]) (ByteArray.mk #[]) (ByteArray.mk #[]) 3 0 0 0) 1 false false).fst (Tm.mk (ByteArray.mk #[81]) (ByteArray.mk #[]) (ByteArray.mk #[]) (ByteArray.mk #[]) false (ByteArray.mk #[]) (ByteArray.mk #[]) (ByteArray.mk #[]) 3 0 0 0) 1 false false).fst (Tm.mk (ByteArray.mk #[81]) (ByteArray.mk #[]) (ByteArray.mk #[]) (ByteArray.mk #[]) false (ByteArray.mk #[]) (ByteArray.mk #[]) (ByteArray.mk #[]) 3 0 0 0) 1 false false).fst 1 2 9).snd)) hR609 rfl ?_
    refine sim_run 3 [] hR609 (by kernel_rfl) trivial (fun ρ610 w610 hm610 hR610 => ?_)
    have hbk := hbk.moved hm610
    refine sim_call 25 [.v (Value.pointer (some (Addr.mk g 0 none))), LS (ByteArray.mk #[80]), LI 2] (by kernel_rfl) ?_
    refine Calls.mono (cancel_bk _ _ _ _ _ _ _ hbk.bk (by unfold Is64 at *; omega) (by unfold Is64; decide +kernel)) ?_
    rintro e611 w611 ⟨v611, rfl, hbv611, hk611, hv611⟩
    obtain ⟨hbk, hR611⟩ := hbk.after hR610 hBw hbv611 hk611 hv611 [] (by kernel_rfl) (by simp)
    refine Back.of (LI ((cancelM (pairM (addM (addM (addM [] (Tm.mk (ByteArray.mk #[80]) (ByteArray.mk #[]) (ByteArray.mk #[]) (ByteArray.mk #[]) true (ByteArray.mk #[]) (ByteArray.mk #[]) (ByteArray.mk #[]) 3 0 0 0) 1 false false).fst (Tm.mk (ByteArray.mk #[81]) (ByteArray.mk #[]) (ByteArray.mk #[]) (ByteArray.mk #[]) false (ByteArray.mk #[]) (ByteArray.mk #[]) (ByteArray.mk #[]) 3 0 0 0) 1 false false).fst (Tm.mk (ByteArray.mk #[81]) (ByteArray.mk #[]) (ByteArray.mk #[]) (ByteArray.mk #[]) false (ByteArray.mk #[]) (ByteArray.mk #[]) (ByteArray.mk #[]) 3 0 0 0) 1 false false).fst 1 2 9).fst (ByteArray.mk #[80]) 2).snd)) hR611 rfl ?_
    refine sim_run 4 [] hR611 (by kernel_rfl) trivial (fun ρ612 w612 hm612 hR612 => ?_)
    have hbk := hbk.moved hm612
    refine sim_call 25 [.v (Value.pointer (some (Addr.mk g 0 none))), LS (ByteArray.mk #[81]), LI 3] (by kernel_rfl) ?_
    refine Calls.mono (cancel_bk _ _ _ _ _ _ _ hbk.bk (by unfold Is64 at *; omega) (by unfold Is64; decide +kernel)) ?_
    rintro e613 w613 ⟨v613, rfl, hbv613, hk613, hv613⟩
    obtain ⟨hbk, hR613⟩ := hbk.after hR612 hBw hbv613 hk613 hv613 [] (by kernel_rfl) (by simp)
    refine Back.of (LI ((cancelM (cancelM (pairM (addM (addM (addM [] (Tm.mk (ByteArray.mk #[80]) (ByteArray.mk #[]) (ByteArray.mk #[]) (ByteArray.mk #[]) true (ByteArray.mk #[]) (ByteArray.mk #[]) (ByteArray.mk #[]) 3 0 0 0) 1 false false).fst (Tm.mk (ByteArray.mk #[81]) (ByteArray.mk #[]) (ByteArray.mk #[]) (ByteArray.mk #[]) false (ByteArray.mk #[]) (ByteArray.mk #[]) (ByteArray.mk #[]) 3 0 0 0) 1 false false).fst (Tm.mk (ByteArray.mk #[81]) (ByteArray.mk #[]) (ByteArray.mk #[]) (ByteArray.mk #[]) false (ByteArray.mk #[]) (ByteArray.mk #[]) (ByteArray.mk #[]) 3 0 0 0) 1 false false).fst 1 2 9).fst (ByteArray.mk #[80]) 2).fst (ByteArray.mk #[81]) 3).snd)) hR613 rfl ?_
    refine sim_run 13 [] hR613 (by kernel_rfl) trivial (fun ρ614 w614 hm614 hR614 => ?_)
    have hbk := hbk.moved hm614
    refine sim_call 25 [.v (Value.pointer (some (Addr.mk g 0 none))), LS (ByteArray.mk #[80]), LI 1] (by kernel_rfl) ?_
    refine Calls.mono (cancel_bk _ _ _ _ _ _ _ hbk.bk (by unfold Is64 at *; omega) (by unfold Is64; decide +kernel)) ?_
    rintro e615 w615 ⟨v615, rfl, hbv615, hk615, hv615⟩
    obtain ⟨hbk, hR615⟩ := hbk.after hR614 hBw hbv615 hk615 hv615 [] (by kernel_rfl) (by simp)
    refine Back.of (LI ((cancelM (cancelM (cancelM (pairM (addM (addM (addM [] (Tm.mk (ByteArray.mk #[80]) (ByteArray.mk #[]) (ByteArray.mk #[]) (ByteArray.mk #[]) true (ByteArray.mk #[]) (ByteArray.mk #[]) (ByteArray.mk #[]) 3 0 0 0) 1 false false).fst (Tm.mk (ByteArray.mk #[81]) (ByteArray.mk #[]) (ByteArray.mk #[]) (ByteArray.mk #[]) false (ByteArray.mk #[]) (ByteArray.mk #[]) (ByteArray.mk #[]) 3 0 0 0) 1 false false).fst (Tm.mk (ByteArray.mk #[81]) (ByteArray.mk #[]) (ByteArray.mk #[]) (ByteArray.mk #[]) false (ByteArray.mk #[]) (ByteArray.mk #[]) (ByteArray.mk #[]) 3 0 0 0) 1 false false).fst 1 2 9).fst (ByteArray.mk #[80]) 2).fst (ByteArray.mk #[81]) 3).fst (ByteArray.mk #[80]) 1).snd)) hR615 rfl ?_
    refine sim_run 16 [] hR615 (by kernel_rfl) trivial (fun ρ616 w616 hm616 hR616 => ?_)
    have hbk := hbk.moved hm616
    refine sim_call 25 [.v (Value.pointer (some (Addr.mk g 0 none))), LS (ByteArray.mk #[81]), LI 2] (by kernel_rfl) ?_
    refine Calls.mono (cancel_bk _ _ _ _ _ _ _ hbk.bk (by unfold Is64 at *; omega) (by unfold Is64; decide +kernel)) ?_
    rintro e617 w617 ⟨v617, rfl, hbv617, hk617, hv617⟩
    obtain ⟨hbk, hR617⟩ := hbk.after hR616 hBw hbv617 hk617 hv617 [] (by kernel_rfl) (by simp)
    refine Back.of (LI ((cancelM (cancelM (cancelM (cancelM (pairM (addM (addM (addM [] (Tm.mk (ByteArray.mk #[80]) (ByteArray.mk #[]) (ByteArray.mk #[]) (ByteArray.mk #[]) true (ByteArray.mk #[]) (ByteArray.mk #[]) (ByteArray.mk #[]) 3 0 0 0) 1 false false).fst (Tm.mk (ByteArray.mk #[81]) (ByteArray.mk #[]) (ByteArray.mk #[]) (ByteArray.mk #[]) false (ByteArray.mk #[]) (ByteArray.mk #[]) (ByteArray.mk #[]) 3 0 0 0) 1 false false).fst (Tm.mk (ByteArray.mk #[81]) (ByteArray.mk #[]) (ByteArray.mk #[]) (ByteArray.mk #[]) false (ByteArray.mk #[]) (ByteArray.mk #[]) (ByteArray.mk #[]) 3 0 0 0) 1 false false).fst 1 2 9).fst (ByteArray.mk #[80]) 2).fst (ByteArray.mk #[81]) 3).fst (ByteArray.mk #[80]) 1).fst (ByteArray.mk #[81]) 2).snd)) hR617 rfl ?_
    refine sim_run 4 [] hR617 (by kernel_rfl) trivial (fun ρ618 w618 hm618 hR618 => ?_)
    have hbk := hbk.moved hm618
    refine sim_call 22 [.v (Value.pointer (some (Addr.mk g 0 none))), LI 1] (by kernel_rfl) ?_
    refine Calls.mono (get_bk _ _ _ _ _ _ hbk.bk (by unfold Is64 at *; omega)) ?_
    rintro e619 w619 ⟨rfl, hb619⟩
    have hR619 := hR618.below hb619
    have hbk := hbk.below hb619
    refine Back.of (.tup [.agg (((getM (cancelM (cancelM (cancelM (cancelM (pairM (addM (addM (addM [] (Tm.mk (ByteArray.mk #[80]) (ByteArray.mk #[]) (ByteArray.mk #[]) (ByteArray.mk #[]) true (ByteArray.mk #[]) (ByteArray.mk #[]) (ByteArray.mk #[]) 3 0 0 0) 1 false false).fst (Tm.mk (ByteArray.mk #[81]) (ByteArray.mk #[]) (ByteArray.mk #[]) (ByteArray.mk #[]) false (ByteArray.mk #[]) (ByteArray.mk #[]) (ByteArray.mk #[]) 3 0 0 0) 1 false false).fst (Tm.mk (ByteArray.mk #[81]) (ByteArray.mk #[]) (ByteArray.mk #[]) (ByteArray.mk #[]) false (ByteArray.mk #[]) (ByteArray.mk #[]) (ByteArray.mk #[]) 3 0 0 0) 1 false false).fst 1 2 9).fst (ByteArray.mk #[80]) 2).fst (ByteArray.mk #[81]) 3).fst (ByteArray.mk #[80]) 1).fst (ByteArray.mk #[81]) 2).fst 1).fst).cells.map .v), LI ((getM (cancelM (cancelM (cancelM (cancelM (pairM (addM (addM (addM [] (Tm.mk (ByteArray.mk #[80]) (ByteArray.mk #[]) (ByteArray.mk #[]) (ByteArray.mk #[]) true (ByteArray.mk #[]) (ByteArray.mk #[]) (ByteArray.mk #[]) 3 0 0 0) 1 false false).fst (Tm.mk (ByteArray.mk #[81]) (ByteArray.mk #[]) (ByteArray.mk #[]) (ByteArray.mk #[]) false (ByteArray.mk #[]) (ByteArray.mk #[]) (ByteArray.mk #[]) 3 0 0 0) 1 false false).fst (Tm.mk (ByteArray.mk #[81]) (ByteArray.mk #[]) (ByteArray.mk #[]) (ByteArray.mk #[]) false (ByteArray.mk #[]) (ByteArray.mk #[]) (ByteArray.mk #[]) 3 0 0 0) 1 false false).fst 1 2 9).fst (ByteArray.mk #[80]) 2).fst (ByteArray.mk #[81]) 3).fst (ByteArray.mk #[80]) 1).fst (ByteArray.mk #[81]) 2).fst 1).snd)]) hR619 rfl ?_
    refine sim_run 10 [] hR619 (by kernel_rfl) trivial (fun ρ620 w620 hm620 hR620 => ?_)
    have hbk := hbk.moved hm620
    refine sim_call 22 [.v (Value.pointer (some (Addr.mk g 0 none))), LI 2] (by kernel_rfl) ?_
    refine Calls.mono (get_bk _ _ _ _ _ _ hbk.bk (by unfold Is64 at *; omega)) ?_
    rintro e621 w621 ⟨rfl, hb621⟩
    have hR621 := hR620.below hb621
    have hbk := hbk.below hb621
    refine Back.of (.tup [.agg (((getM (cancelM (cancelM (cancelM (cancelM (pairM (addM (addM (addM [] (Tm.mk (ByteArray.mk #[80]) (ByteArray.mk #[]) (ByteArray.mk #[]) (ByteArray.mk #[]) true (ByteArray.mk #[]) (ByteArray.mk #[]) (ByteArray.mk #[]) 3 0 0 0) 1 false false).fst (Tm.mk (ByteArray.mk #[81]) (ByteArray.mk #[]) (ByteArray.mk #[]) (ByteArray.mk #[]) false (ByteArray.mk #[]) (ByteArray.mk #[]) (ByteArray.mk #[]) 3 0 0 0) 1 false false).fst (Tm.mk (ByteArray.mk #[81]) (ByteArray.mk #[]) (ByteArray.mk #[]) (ByteArray.mk #[]) false (ByteArray.mk #[]) (ByteArray.mk #[]) (ByteArray.mk #[]) 3 0 0 0) 1 false false).fst 1 2 9).fst (ByteArray.mk #[80]) 2).fst (ByteArray.mk #[81]) 3).fst (ByteArray.mk #[80]) 1).fst (ByteArray.mk #[81]) 2).fst 2).fst).cells.map .v), LI ((getM (cancelM (cancelM (cancelM (cancelM (pairM (addM (addM (addM [] (Tm.mk (ByteArray.mk #[80]) (ByteArray.mk #[]) (ByteArray.mk #[]) (ByteArray.mk #[]) true (ByteArray.mk #[]) (ByteArray.mk #[]) (ByteArray.mk #[]) 3 0 0 0) 1 false false).fst (Tm.mk (ByteArray.mk #[81]) (ByteArray.mk #[]) (ByteArray.mk #[]) (ByteArray.mk #[]) false (ByteArray.mk #[]) (ByteArray.mk #[]) (ByteArray.mk #[]) 3 0 0 0) 1 false false).fst (Tm.mk (ByteArray.mk #[81]) (ByteArray.mk #[]) (ByteArray.mk #[]) (ByteArray.mk #[]) false (ByteArray.mk #[]) (ByteArray.mk #[]) (ByteArray.mk #[]) 3 0 0 0) 1 false false).fst 1 2 9).fst (ByteArray.mk #[80]) 2).fst (ByteArray.mk #[81]) 3).fst (ByteArray.mk #[80]) 1).fst (ByteArray.mk #[81]) 2).fst 2).snd)]) hR621 rfl ?_
    refine sim_run 10 [] hR621 (by kernel_rfl) trivial (fun ρ622 w622 hm622 hR622 => ?_)
    have hbk := hbk.moved hm622
    refine sim_call 22 [.v (Value.pointer (some (Addr.mk g 0 none))), LI 3] (by kernel_rfl) ?_
    refine Calls.mono (get_bk _ _ _ _ _ _ hbk.bk (by unfold Is64 at *; omega)) ?_
    rintro e623 w623 ⟨rfl, hb623⟩
    have hR623 := hR622.below hb623
    have hbk := hbk.below hb623
    refine Back.of (.tup [.agg (((getM (cancelM (cancelM (cancelM (cancelM (pairM (addM (addM (addM [] (Tm.mk (ByteArray.mk #[80]) (ByteArray.mk #[]) (ByteArray.mk #[]) (ByteArray.mk #[]) true (ByteArray.mk #[]) (ByteArray.mk #[]) (ByteArray.mk #[]) 3 0 0 0) 1 false false).fst (Tm.mk (ByteArray.mk #[81]) (ByteArray.mk #[]) (ByteArray.mk #[]) (ByteArray.mk #[]) false (ByteArray.mk #[]) (ByteArray.mk #[]) (ByteArray.mk #[]) 3 0 0 0) 1 false false).fst (Tm.mk (ByteArray.mk #[81]) (ByteArray.mk #[]) (ByteArray.mk #[]) (ByteArray.mk #[]) false (ByteArray.mk #[]) (ByteArray.mk #[]) (ByteArray.mk #[]) 3 0 0 0) 1 false false).fst 1 2 9).fst (ByteArray.mk #[80]) 2).fst (ByteArray.mk #[81]) 3).fst (ByteArray.mk #[80]) 1).fst (ByteArray.mk #[81]) 2).fst 3).fst).cells.map .v), LI ((getM (cancelM (cancelM (cancelM (cancelM (pairM (addM (addM (addM [] (Tm.mk (ByteArray.mk #[80]) (ByteArray.mk #[]) (ByteArray.mk #[]) (ByteArray.mk #[]) true (ByteArray.mk #[]) (ByteArray.mk #[]) (ByteArray.mk #[]) 3 0 0 0) 1 false false).fst (Tm.mk (ByteArray.mk #[81]) (ByteArray.mk #[]) (ByteArray.mk #[]) (ByteArray.mk #[]) false (ByteArray.mk #[]) (ByteArray.mk #[]) (ByteArray.mk #[]) 3 0 0 0) 1 false false).fst (Tm.mk (ByteArray.mk #[81]) (ByteArray.mk #[]) (ByteArray.mk #[]) (ByteArray.mk #[]) false (ByteArray.mk #[]) (ByteArray.mk #[]) (ByteArray.mk #[]) 3 0 0 0) 1 false false).fst 1 2 9).fst (ByteArray.mk #[80]) 2).fst (ByteArray.mk #[81]) 3).fst (ByteArray.mk #[80]) 1).fst (ByteArray.mk #[81]) 2).fst 3).snd)]) hR623 rfl ?_
    refine sim_run 21 [] hR623 (by kernel_rfl) trivial (fun ρ624 w624 hm624 hR624 => ?_)
    have hbk := hbk.moved hm624
    refine sim_call 20 [] (by kernel_rfl) ?_
    refine Calls.mono (alive14_any _) ?_
    rintro e625 w625 ⟨rfl, hb625⟩
    have hR625 := hR624.below hb625
    have hbk := hbk.below hb625
    refine Back.of (LB true) hR625 rfl ?_
    refine sim_run 29 [] hR625 (by kernel_rfl) trivial (fun ρ626 w626 hm626 hR626 => ?_)
    have hbk := hbk.moved hm626
    refine sim_ret (LB true) hR626 (by kernel_rfl) (by kernel_rfl) ?_
    exact ⟨rfl, hR626.toBelow⟩
    
  · refine sim_run 6 [] hR (by kernel_rfl) trivial (fun ρ700 w700 hm700 hR700 => ?_)
    refine sim_call 19 [] (by kernel_rfl) ?_
    refine Calls.mono (new_any _) ?_
    rintro e701 w701 ⟨g, rfl, hg701, hb701, hbel701⟩
    have hBw := hR700.keeps.size
    have hbk := BkO.new hR700 hg701 hb701
    have hR701 := hR700.below hbel701
    refine Back.of (.v (Value.pointer (some (Addr.mk g 0 none)))) hR701 rfl ?_
    refine sim_run 14 [] hR701 (by kernel_rfl) trivial (fun ρ702 w702 hm702 hR702 => ?_)
    have hbk := hbk.moved hm702
    refine sim_call 21 [.v (Value.pointer (some (Addr.mk g 0 none))), .agg [LS (ByteArray.mk #[80]), LS (ByteArray.mk #[]), LS (ByteArray.mk #[]), LS (ByteArray.mk #[]), LB true, LS (ByteArray.mk #[]), LS (ByteArray.mk #[]), LS (ByteArray.mk #[]), LI 3, LI 0, LI 0, LI 0], LI 1, LB false, LB false] (by kernel_rfl) ?_
    refine Calls.mono (add_bk _ _ _ _ _ _ _ _ _ _ _ _ _ _ _ _ _ _ _ _ hbk.bk (by constructor <;> decide +kernel)) ?_
    rintro e703 w703 ⟨v703, rfl, hbv703, hk703, hv703⟩
    obtain ⟨hbk, hR703⟩ := hbk.after hR702 hBw hbv703 hk703 hv703 [] (by kernel_rfl) (by simp)
    refine Back.of (.tup [LI ((addM [] (Tm.mk (ByteArray.mk #[80]) (ByteArray.mk #[]) (ByteArray.mk #[]) (ByteArray.mk #[]) true (ByteArray.mk #[]) (ByteArray.mk #[]) (ByteArray.mk #[]) 3 0 0 0) 1 false false).snd.fst), LI ((addM [] (Tm.mk (ByteArray.mk #[80]) (ByteArray.mk #[]) (ByteArray.mk #[]) (ByteArray.mk #[]) true (ByteArray.mk #[]) (ByteArray.mk #[]) (ByteArray.mk #[]) 3 0 0 0) 1 false false).snd.snd)]) hR703 rfl ?_
    refine sim_run 5 [] hR703 (by kernel_rfl) trivial (fun ρ704 w704 hm704 hR704 => ?_)
    have hbk := hbk.moved hm704
    refine sim_call 21 [.v (Value.pointer (some (Addr.mk g 0 none))), .agg [LS (ByteArray.mk #[81]), LS (ByteArray.mk #[]), LS (ByteArray.mk #[]), LS (ByteArray.mk #[]), LB false, LS (ByteArray.mk #[]), LS (ByteArray.mk #[]), LS (ByteArray.mk #[]), LI 3, LI 0, LI 0, LI 0], LI 1, LB false, LB false] (by kernel_rfl) ?_
    refine Calls.mono (add_bk _ _ _ _ _ _ _ _ _ _ _ _ _ _ _ _ _ _ _ _ hbk.bk (by constructor <;> decide +kernel)) ?_
    rintro e705 w705 ⟨v705, rfl, hbv705, hk705, hv705⟩
    obtain ⟨hbk, hR705⟩ := hbk.after hR704 hBw hbv705 hk705 hv705 [] (by kernel_rfl) (by simp)
    refine Back.of (.tup [LI ((addM (addM [] (Tm.mk (ByteArray.mk #[80]) (ByteArray.mk #[]) (ByteArray.mk #[]) (ByteArray.mk #[]) true (ByteArray.mk #[]) (ByteArray.mk #[]) (ByteArray.mk #[]) 3 0 0 0) 1 false false).fst (Tm.mk (ByteArray.mk #[81]) (ByteArray.mk #[]) (ByteArray.mk #[]) (ByteArray.mk #[]) false (ByteArray.mk #[]) (ByteArray.mk #[]) (ByteArray.mk #[]) 3 0 0 0) 1 false false).snd.fst), LI ((addM (addM [] (Tm.mk (ByteArray.mk #[80]) (ByteArray.mk #[]) (ByteArray.mk #[]) (ByteArray.mk #[]) true (ByteArray.mk #[]) (ByteArray.mk #[]) (ByteArray.mk #[]) 3 0 0 0) 1 false false).fst (Tm.mk (ByteArray.mk #[81]) (ByteArray.mk #[]) (ByteArray.mk #[]) (ByteArray.mk #[]) false (ByteArray.mk #[]) (ByteArray.mk #[]) (ByteArray.mk #[]) 3 0 0 0) 1 false false).snd.snd)]) hR705 rfl ?_
    refine sim_run 5 [] hR705 (by kernel_rfl) trivial (fun ρ706 w706 hm706 hR706 => ?_)
    have hbk := hbk.moved hm706
    refine sim_call 21 [.v (Value.pointer (some (Addr.mk g 0 none))), .agg [LS (ByteArray.mk #[81]), LS (ByteArray.mk #[]), LS (ByteArray.mk #[]), LS (ByteArray.mk #[]), LB false, LS (ByteArray.mk #[]), LS (ByteArray.mk #[]), LS (ByteArray.mk #[]), LI 3, LI 0, LI 0, LI 0], LI 1, LB false, LB false] (by kernel_rfl) ?_
    refine Calls.mono (add_bk _ _ _ _ _ _ _ _ _ _ _ _ _ _ _ _ _ _ _ _ hbk.bk (by constructor <;> decide +kernel)) ?_
    rintro e707 w707 ⟨v707, rfl, hbv707, hk707, hv707⟩
    obtain ⟨hbk, hR707⟩ := hbk.after hR706 hBw hbv707 hk707 hv707 [] (by kernel_rfl) (by simp)
    refine Back.of (.tup [LI ((addM (addM (addM [] (Tm.mk (ByteArray.mk #[80]) (ByteArray.mk #[]) (ByteArray.mk #[]) (ByteArray.mk #[]) true (ByteArray.mk #[]) (ByteArray.mk #[]) (ByteArray.mk #[]) 3 0 0 0) 1 false false).fst (Tm.mk (ByteArray.mk #[81]) (ByteArray.mk #[]) (ByteArray.mk #[]) (ByteArray.mk #[]) false (ByteArray.mk #[]) (ByteArray.mk #[]) (ByteArray.mk #[]) 3 0 0 0) 1 false false).fst (Tm.mk (ByteArray.mk #[81]) (ByteArray.mk #[]) (ByteArray.mk #[]) (ByteArray.mk #[]) false (ByteArray.mk #[]) (ByteArray.mk #[]) (ByteArray.mk #[]) 3 0 0 0) 1 false false).snd.fst), LI ((addM (addM (addM [] (Tm.mk (ByteArray.mk #[80]) (ByteArray.mk #[]) (ByteArray.mk #[]) (ByteArray.mk #[]) true (ByteArray.mk #[]) (ByteArray.mk #[]) (ByteArray.mk #[]) 3 0 0 0) 1 false false).fst (Tm.mk (ByteArray.mk #[81]) (ByteArray.mk #[]) (ByteArray.mk #[]) (ByteArray.mk #[]) false (ByteArray.mk #[]) (ByteArray.mk #[]) (ByteArray.mk #[]) 3 0 0 0) 1 false false).fst (Tm.mk (ByteArray.mk #[81]) (ByteArray.mk #[]) (ByteArray.mk #[]) (ByteArray.mk #[]) false (ByteArray.mk #[]) (ByteArray.mk #[]) (ByteArray.mk #[]) 3 0 0 0) 1 false false).snd.snd)]) hR707 rfl ?_
    refine sim_run 5 [] hR707 (by kernel_rfl) trivial (fun ρ708 w708 hm708 hR708 => ?_)
    have hbk := hbk.moved hm708
    refine sim_call 24 [.v (Value.pointer (some (Addr.mk g 0 none))), LI 1, LI 2, LI 9] (by kernel_rfl) ?_
    refine Calls.mono (pair_bk _ _ _ _ _ _ _ _ hbk.bk (by unfold Is64 at *; omega) (by unfold Is64 at *; omega)) ?_
    rintro e709 w709 ⟨v709, rfl, hbv709, hk709, hv709⟩
    obtain ⟨hbk, hR709⟩ := hbk.after hR708 hBw hbv709 hk709 hv709 [] (by kernel_rfl) (by simp)
    refine Back.of (LI ((pairM (addM (addM (addM [] (Tm.mk (ByteArray.mk #[80]) (ByteArray.mk #[]) (ByteArray.mk #[]) (ByteArray.mk #[]) true (ByteArray.mk #[]) (ByteArray.mk #[]) (ByteArray.mk #[]) 3 0 0 0) 1 false false).fst (Tm.mk (ByteArray.mk #[81]) (ByteArray.mk #[]) (ByteArray.mk #[]) (ByteArray.mk #[]) false (ByteArray.mk #[]) (ByteArray.mk #[]) (ByteArray.mk #[]) 3 0 0 0) 1 false false).fst (Tm.mk (ByteArray.mk #[81]) (ByteArray.mk #[]) (ByteArray.mk #[]) (ByteArray.mk #[]) false (ByteArray.mk #[]) (ByteArray.mk #[]) (ByteArray.mk #[]) 3 0 0 0) 1 false false).fst 1 2 9).snd)) hR709 rfl ?_
    refine sim_run 3 [] hR709 (by kernel_rfl) trivial (fun ρ710 w710 hm710 hR710 => ?_)
    have hbk := hbk.moved hm710
    refine sim_call 25 [.v (Value.pointer (some (Addr.mk g 0 none))), LS (ByteArray.mk #[80]), LI 2] (by kernel_rfl) ?_
    refine Calls.mono (cancel_bk _ _ _ _ _ _ _ hbk.bk (by unfold Is64 at *; omega) (by unfold Is64; decide +kernel)) ?_
    rintro e711 w711 ⟨v711, rfl, hbv711, hk711, hv711⟩
    obtain ⟨hbk, hR711⟩ := hbk.after hR710 hBw hbv711 hk711 hv711 [] (by kernel_rfl) (by simp)
    refine Back.of (LI ((cancelM (pairM (addM (addM (addM [] (Tm.mk (ByteArray.mk #[80]) (ByteArray.mk #[]) (ByteArray.mk #[]) (ByteArray.mk #[]) true (ByteArray.mk #[]) (ByteArray.mk #[]) (ByteArray.mk #[]) 3 0 0 0) 1 false false).fst (Tm.mk (ByteArray.mk #[81]) (ByteArray.mk #[]) (ByteArray.mk #[]) (ByteArray.mk #[]) false (ByteArray.mk #[]) (ByteArray.mk #[]) (ByteArray.mk #[]) 3 0 0 0) 1 false false).fst (Tm.mk (ByteArray.mk #[81]) (ByteArray.mk #[]) (ByteArray.mk #[]) (ByteArray.mk #[]) false (ByteArray.mk #[]) (ByteArray.mk #[]) (ByteArray.mk #[]) 3 0 0 0) 1 false false).fst 1 2 9).fst (ByteArray.mk #[80]) 2).snd)) hR711 rfl ?_
    refine sim_run 4 [] hR711 (by kernel_rfl) trivial (fun ρ712 w712 hm712 hR712 => ?_)
    have hbk := hbk.moved hm712
    refine sim_call 25 [.v (Value.pointer (some (Addr.mk g 0 none))), LS (ByteArray.mk #[81]), LI 3] (by kernel_rfl) ?_
    refine Calls.mono (cancel_bk _ _ _ _ _ _ _ hbk.bk (by unfold Is64 at *; omega) (by unfold Is64; decide +kernel)) ?_
    rintro e713 w713 ⟨v713, rfl, hbv713, hk713, hv713⟩
    obtain ⟨hbk, hR713⟩ := hbk.after hR712 hBw hbv713 hk713 hv713 [] (by kernel_rfl) (by simp)
    refine Back.of (LI ((cancelM (cancelM (pairM (addM (addM (addM [] (Tm.mk (ByteArray.mk #[80]) (ByteArray.mk #[]) (ByteArray.mk #[]) (ByteArray.mk #[]) true (ByteArray.mk #[]) (ByteArray.mk #[]) (ByteArray.mk #[]) 3 0 0 0) 1 false false).fst (Tm.mk (ByteArray.mk #[81]) (ByteArray.mk #[]) (ByteArray.mk #[]) (ByteArray.mk #[]) false (ByteArray.mk #[]) (ByteArray.mk #[]) (ByteArray.mk #[]) 3 0 0 0) 1 false false).fst (Tm.mk (ByteArray.mk #[81]) (ByteArray.mk #[]) (ByteArray.mk #[]) (ByteArray.mk #[]) false (ByteArray.mk #[]) (ByteArray.mk #[]) (ByteArray.mk #[]) 3 0 0 0) 1 false false).fst 1 2 9).fst (ByteArray.mk #[80]) 2).fst (ByteArray.mk #[81]) 3).snd)) hR713 rfl ?_
    refine sim_run 13 [] hR713 (by kernel_rfl) trivial (fun ρ714 w714 hm714 hR714 => ?_)
    have hbk := hbk.moved hm714
    refine sim_call 25 [.v (Value.pointer (some (Addr.mk g 0 none))), LS (ByteArray.mk #[80]), LI 1] (by kernel_rfl) ?_
    refine Calls.mono (cancel_bk _ _ _ _ _ _ _ hbk.bk (by unfold Is64 at *; omega) (by unfold Is64; decide +kernel)) ?_
    rintro e715 w715 ⟨v715, rfl, hbv715, hk715, hv715⟩
    obtain ⟨hbk, hR715⟩ := hbk.after hR714 hBw hbv715 hk715 hv715 [] (by kernel_rfl) (by simp)
    refine Back.of (LI ((cancelM (cancelM (cancelM (pairM (addM (addM (addM [] (Tm.mk (ByteArray.mk #[80]) (ByteArray.mk #[]) (ByteArray.mk #[]) (ByteArray.mk #[]) true (ByteArray.mk #[]) (ByteArray.mk #[]) (ByteArray.mk #[]) 3 0 0 0) 1 false false).fst (Tm.mk (ByteArray.mk #[81]) (ByteArray.mk #[]) (ByteArray.mk #[]) (ByteArray.mk #[]) false (ByteArray.mk #[]) (ByteArray.mk #[]) (ByteArray.mk #[]) 3 0 0 0) 1 false false).fst (Tm.mk (ByteArray.mk #[81]) (ByteArray.mk #[]) (ByteArray.mk #[]) (ByteArray.mk #[]) false (ByteArray.mk #[]) (ByteArray.mk #[]) (ByteArray.mk #[]) 3 0 0 0) 1 false false).fst 1 2 9).fst (ByteArray.mk #[80]) 2).fst (ByteArray.mk #[81]) 3).fst (ByteArray.mk #[80]) 1).snd)) hR715 rfl ?_
    refine sim_run 9 [] hR715 (by kernel_rfl) trivial (fun ρ716 w716 hm716 hR716 => ?_)
    have hbk := hbk.moved hm716
    refine sim_call 26 [.v (Value.pointer (some (Addr.mk g 0 none))), LS (ByteArray.mk #[80]), LI 1] (by kernel_rfl) ?_
    refine Calls.mono (keep_bk _ _ _ _ _ _ _ hbk.bk (by unfold Is64 at *; omega)) ?_
    rintro e717 w717 ⟨v717, rfl, hbv717, hk717, hv717⟩
    obtain ⟨hbk, hR717⟩ := hbk.after hR716 hBw hbv717 hk717 hv717 [] (by kernel_rfl) (by simp)
    refine Back.of (LI (mayM (cancelM (cancelM (cancelM (pairM (addM (addM (addM [] (Tm.mk (ByteArray.mk #[80]) (ByteArray.mk #[]) (ByteArray.mk #[]) (ByteArray.mk #[]) true (ByteArray.mk #[]) (ByteArray.mk #[]) (ByteArray.mk #[]) 3 0 0 0) 1 false false).fst (Tm.mk (ByteArray.mk #[81]) (ByteArray.mk #[]) (ByteArray.mk #[]) (ByteArray.mk #[]) false (ByteArray.mk #[]) (ByteArray.mk #[]) (ByteArray.mk #[]) 3 0 0 0) 1 false false).fst (Tm.mk (ByteArray.mk #[81]) (ByteArray.mk #[]) (ByteArray.mk #[]) (ByteArray.mk #[]) false (ByteArray.mk #[]) (ByteArray.mk #[]) (ByteArray.mk #[]) 3 0 0 0) 1 false false).fst 1 2 9).fst (ByteArray.mk #[80]) 2).fst (ByteArray.mk #[81]) 3).fst (ByteArray.mk #[80]) 1).fst (ByteArray.mk #[80]) 1)) hR717 rfl ?_
    refine sim_run 11 [] hR717 (by kernel_rfl) trivial (fun ρ718 w718 hm718 hR718 => ?_)
    have hbk := hbk.moved hm718
    refine sim_call 22 [.v (Value.pointer (some (Addr.mk g 0 none))), LI 1] (by kernel_rfl) ?_
    refine Calls.mono (get_bk _ _ _ _ _ _ hbk.bk (by unfold Is64 at *; omega)) ?_
    rintro e719 w719 ⟨rfl, hb719⟩
    have hR719 := hR718.below hb719
    have hbk := hbk.below hb719
    refine Back.of (.tup [.agg (((getM (keepM (cancelM (cancelM (cancelM (pairM (addM (addM (addM [] (Tm.mk (ByteArray.mk #[80]) (ByteArray.mk #[]) (ByteArray.mk #[]) (ByteArray.mk #[]) true (ByteArray.mk #[]) (ByteArray.mk #[]) (ByteArray.mk #[]) 3 0 0 0) 1 false false).fst (Tm.mk (ByteArray.mk #[81]) (ByteArray.mk #[]) (ByteArray.mk #[]) (ByteArray.mk #[]) false (ByteArray.mk #[]) (ByteArray.mk #[]) (ByteArray.mk #[]) 3 0 0 0) 1 false false).fst (Tm.mk (ByteArray.mk #[81]) (ByteArray.mk #[]) (ByteArray.mk #[]) (ByteArray.mk #[]) false (ByteArray.mk #[]) (ByteArray.mk #[]) (ByteArray.mk #[]) 3 0 0 0) 1 false false).fst 1 2 9).fst (ByteArray.mk #[80]) 2).fst (ByteArray.mk #[81]) 3).fst (ByteArray.mk #[80]) 1).fst (ByteArray.mk #[80]) 1) 1).fst).cells.map .v), LI ((getM (keepM (cancelM (cancelM (cancelM (pairM (addM (addM (addM [] (Tm.mk (ByteArray.mk #[80]) (ByteArray.mk #[]) (ByteArray.mk #[]) (ByteArray.mk #[]) true (ByteArray.mk #[]) (ByteArray.mk #[]) (ByteArray.mk #[]) 3 0 0 0) 1 false false).fst (Tm.mk (ByteArray.mk #[81]) (ByteArray.mk #[]) (ByteArray.mk #[]) (ByteArray.mk #[]) false (ByteArray.mk #[]) (ByteArray.mk #[]) (ByteArray.mk #[]) 3 0 0 0) 1 false false).fst (Tm.mk (ByteArray.mk #[81]) (ByteArray.mk #[]) (ByteArray.mk #[]) (ByteArray.mk #[]) false (ByteArray.mk #[]) (ByteArray.mk #[]) (ByteArray.mk #[]) 3 0 0 0) 1 false false).fst 1 2 9).fst (ByteArray.mk #[80]) 2).fst (ByteArray.mk #[81]) 3).fst (ByteArray.mk #[80]) 1).fst (ByteArray.mk #[80]) 1) 1).snd)]) hR719 rfl ?_
    refine sim_run 10 [] hR719 (by kernel_rfl) trivial (fun ρ720 w720 hm720 hR720 => ?_)
    have hbk := hbk.moved hm720
    refine sim_call 22 [.v (Value.pointer (some (Addr.mk g 0 none))), LI 2] (by kernel_rfl) ?_
    refine Calls.mono (get_bk _ _ _ _ _ _ hbk.bk (by unfold Is64 at *; omega)) ?_
    rintro e721 w721 ⟨rfl, hb721⟩
    have hR721 := hR720.below hb721
    have hbk := hbk.below hb721
    refine Back.of (.tup [.agg (((getM (keepM (cancelM (cancelM (cancelM (pairM (addM (addM (addM [] (Tm.mk (ByteArray.mk #[80]) (ByteArray.mk #[]) (ByteArray.mk #[]) (ByteArray.mk #[]) true (ByteArray.mk #[]) (ByteArray.mk #[]) (ByteArray.mk #[]) 3 0 0 0) 1 false false).fst (Tm.mk (ByteArray.mk #[81]) (ByteArray.mk #[]) (ByteArray.mk #[]) (ByteArray.mk #[]) false (ByteArray.mk #[]) (ByteArray.mk #[]) (ByteArray.mk #[]) 3 0 0 0) 1 false false).fst (Tm.mk (ByteArray.mk #[81]) (ByteArray.mk #[]) (ByteArray.mk #[]) (ByteArray.mk #[]) false (ByteArray.mk #[]) (ByteArray.mk #[]) (ByteArray.mk #[]) 3 0 0 0) 1 false false).fst 1 2 9).fst (ByteArray.mk #[80]) 2).fst (ByteArray.mk #[81]) 3).fst (ByteArray.mk #[80]) 1).fst (ByteArray.mk #[80]) 1) 2).fst).cells.map .v), LI ((getM (keepM (cancelM (cancelM (cancelM (pairM (addM (addM (addM [] (Tm.mk (ByteArray.mk #[80]) (ByteArray.mk #[]) (ByteArray.mk #[]) (ByteArray.mk #[]) true (ByteArray.mk #[]) (ByteArray.mk #[]) (ByteArray.mk #[]) 3 0 0 0) 1 false false).fst (Tm.mk (ByteArray.mk #[81]) (ByteArray.mk #[]) (ByteArray.mk #[]) (ByteArray.mk #[]) false (ByteArray.mk #[]) (ByteArray.mk #[]) (ByteArray.mk #[]) 3 0 0 0) 1 false false).fst (Tm.mk (ByteArray.mk #[81]) (ByteArray.mk #[]) (ByteArray.mk #[]) (ByteArray.mk #[]) false (ByteArray.mk #[]) (ByteArray.mk #[]) (ByteArray.mk #[]) 3 0 0 0) 1 false false).fst 1 2 9).fst (ByteArray.mk #[80]) 2).fst (ByteArray.mk #[81]) 3).fst (ByteArray.mk #[80]) 1).fst (ByteArray.mk #[80]) 1) 2).snd)]) hR721 rfl ?_
    refine sim_run 10 [] hR721 (by kernel_rfl) trivial (fun ρ722 w722 hm722 hR722 => ?_)
    have hbk := hbk.moved hm722
    refine sim_call 22 [.v (Value.pointer (some (Addr.mk g 0 none))), LI 3] (by kernel_rfl) ?_
    refine Calls.mono (get_bk _ _ _ _ _ _ hbk.bk (by unfold Is64 at *; omega)) ?_
    rintro e723 w723 ⟨rfl, hb723⟩
    have hR723 := hR722.below hb723
    have hbk := hbk.below hb723
    refine Back.of (.tup [.agg (((getM (keepM (cancelM (cancelM (cancelM (pairM (addM (addM (addM [] (Tm.mk (ByteArray.mk #[80]) (ByteArray.mk #[]) (ByteArray.mk #[]) (ByteArray.mk #[]) true (ByteArray.mk #[]) (ByteArray.mk #[]) (ByteArray.mk #[]) 3 0 0 0) 1 false false).fst (Tm.mk (ByteArray.mk #[81]) (ByteArray.mk #[]) (ByteArray.mk #[]) (ByteArray.mk #[]) false (ByteArray.mk #[]) (ByteArray.mk #[]) (ByteArray.mk #[]) 3 0 0 0) 1 false false).fst (Tm.mk (ByteArray.mk #[81]) (ByteArray.mk #[]) (ByteArray.mk #[]) (ByteArray.mk #[]) false (ByteArray.mk #[]) (ByteArray.mk #[]) (ByteArray.mk #[]) 3 0 0 0) 1 false false).fst 1 2 9).fst (ByteArray.mk #[80]) 2).fst (ByteArray.mk #[81]) 3).fst (ByteArray.mk #[80]) 1).fst (ByteArray.mk #[80]) 1) 3).fst).cells.map .v), LI ((getM (keepM (cancelM (cancelM (cancelM (pairM (addM (addM (addM [] (Tm.mk (ByteArray.mk #[80]) (ByteArray.mk #[]) (ByteArray.mk #[]) (ByteArray.mk #[]) true (ByteArray.mk #[]) (ByteArray.mk #[]) (ByteArray.mk #[]) 3 0 0 0) 1 false false).fst (Tm.mk (ByteArray.mk #[81]) (ByteArray.mk #[]) (ByteArray.mk #[]) (ByteArray.mk #[]) false (ByteArray.mk #[]) (ByteArray.mk #[]) (ByteArray.mk #[]) 3 0 0 0) 1 false false).fst (Tm.mk (ByteArray.mk #[81]) (ByteArray.mk #[]) (ByteArray.mk #[]) (ByteArray.mk #[]) false (ByteArray.mk #[]) (ByteArray.mk #[]) (ByteArray.mk #[]) 3 0 0 0) 1 false false).fst 1 2 9).fst (ByteArray.mk #[80]) 2).fst (ByteArray.mk #[81]) 3).fst (ByteArray.mk #[80]) 1).fst (ByteArray.mk #[80]) 1) 3).snd)]) hR723 rfl ?_
    refine sim_run 21 [] hR723 (by kernel_rfl) trivial (fun ρ724 w724 hm724 hR724 => ?_)
    have hbk := hbk.moved hm724
    refine sim_call 20 [] (by kernel_rfl) ?_
    refine Calls.mono (alive14_any _) ?_
    rintro e725 w725 ⟨rfl, hb725⟩
    have hR725 := hR724.below hb725
    have hbk := hbk.below hb725
    refine Back.of (LB true) hR725 rfl ?_
    refine sim_run 29 [] hR725 (by kernel_rfl) trivial (fun ρ726 w726 hm726 hR726 => ?_)
    have hbk := hbk.moved hm726
    refine sim_ret (LB true) hR726 (by kernel_rfl) (by kernel_rfl) ?_
    exact ⟨rfl, hR726.toBelow⟩
    
  · refine sim_run 6 [] hR (by kernel_rfl) trivial (fun ρ800 w800 hm800 hR800 => ?_)
    refine sim_call 19 [] (by kernel_rfl) ?_
    refine Calls.mono (new_any _) ?_
    rintro e801 w801 ⟨g, rfl, hg801, hb801, hbel801⟩
    have hBw := hR800.keeps.size
    have hbk := BkO.new hR800 hg801 hb801
    have hR801 := hR800.below hbel801
    refine Back.of (.v (Value.pointer (some (Addr.mk g 0 none)))) hR801 rfl ?_
    refine sim_run 14 [] hR801 (by kernel_rfl) trivial (fun ρ802 w802 hm802 hR802 => ?_)
    have hbk := hbk.moved hm802
    refine sim_call 21 [.v (Value.pointer (some (Addr.mk g 0 none))), .agg [LS (ByteArray.mk #[80]), LS (ByteArray.mk #[]), LS (ByteArray.mk #[]), LS (ByteArray.mk #[]), LB true, LS (ByteArray.mk #[]), LS (ByteArray.mk #[]), LS (ByteArray.mk #[]), LI 3, LI 0, LI 0, LI 0], LI 1, LB false, LB false] (by kernel_rfl) ?_
    refine Calls.mono (add_bk _ _ _ _ _ _ _ _ _ _ _ _ _ _ _ _ _ _ _ _ hbk.bk (by constructor <;> decide +kernel)) ?_
    rintro e803 w803 ⟨v803, rfl, hbv803, hk803, hv803⟩
    obtain ⟨hbk, hR803⟩ := hbk.after hR802 hBw hbv803 hk803 hv803 [] (by kernel_rfl) (by simp)
    refine Back.of (.tup [LI ((addM [] (Tm.mk (ByteArray.mk #[80]) (ByteArray.mk #[]) (ByteArray.mk #[]) (ByteArray.mk #[]) true (ByteArray.mk #[]) (ByteArray.mk #[]) (ByteArray.mk #[]) 3 0 0 0) 1 false false).snd.fst), LI ((addM [] (Tm.mk (ByteArray.mk #[80]) (ByteArray.mk #[]) (ByteArray.mk #[]) (ByteArray.mk #[]) true (ByteArray.mk #[]) (ByteArray.mk #[]) (ByteArray.mk #[]) 3 0 0 0) 1 false false).snd.snd)]) hR803 rfl ?_
    refine sim_run 5 [] hR803 (by kernel_rfl) trivial (fun ρ804 w804 hm804 hR804 => ?_)
    have hbk := hbk.moved hm804
    refine sim_call 21 [.v (Value.pointer (some (Addr.mk g 0 none))), .agg [LS (ByteArray.mk #[81]), LS (ByteArray.mk #[]), LS (ByteArray.mk #[]), LS (ByteArray.mk #[]), LB false, LS (ByteArray.mk #[]), LS (ByteArray.mk #[]), LS (ByteArray.mk #[]), LI 3, LI 0, LI 0, LI 0], LI 1, LB false, LB false] (by kernel_rfl) ?_
    refine Calls.mono (add_bk _ _ _ _ _ _ _ _ _ _ _ _ _ _ _ _ _ _ _ _ hbk.bk (by constructor <;> decide +kernel)) ?_
    rintro e805 w805 ⟨v805, rfl, hbv805, hk805, hv805⟩
    obtain ⟨hbk, hR805⟩ := hbk.after hR804 hBw hbv805 hk805 hv805 [] (by kernel_rfl) (by simp)
    refine Back.of (.tup [LI ((addM (addM [] (Tm.mk (ByteArray.mk #[80]) (ByteArray.mk #[]) (ByteArray.mk #[]) (ByteArray.mk #[]) true (ByteArray.mk #[]) (ByteArray.mk #[]) (ByteArray.mk #[]) 3 0 0 0) 1 false false).fst (Tm.mk (ByteArray.mk #[81]) (ByteArray.mk #[]) (ByteArray.mk #[]) (ByteArray.mk #[]) false (ByteArray.mk #[]) (ByteArray.mk #[]) (ByteArray.mk #[]) 3 0 0 0) 1 false false).snd.fst), LI ((addM (addM [] (Tm.mk (ByteArray.mk #[80]) (ByteArray.mk #[]) (ByteArray.mk #[]) (ByteArray.mk #[]) true (ByteArray.mk #[]) (ByteArray.mk #[]) (ByteArray.mk #[]) 3 0 0 0) 1 false false).fst (Tm.mk (ByteArray.mk #[81]) (ByteArray.mk #[]) (ByteArray.mk #[]) (ByteArray.mk #[]) false (ByteArray.mk #[]) (ByteArray.mk #[]) (ByteArray.mk #[]) 3 0 0 0) 1 false false).snd.snd)]) hR805 rfl ?_
    refine sim_run 5 [] hR805 (by kernel_rfl) trivial (fun ρ806 w806 hm806 hR806 => ?_)
    have hbk := hbk.moved hm806
    refine sim_call 21 [.v (Value.pointer (some (Addr.mk g 0 none))), .agg [LS (ByteArray.mk #[81]), LS (ByteArray.mk #[]), LS (ByteArray.mk #[]), LS (ByteArray.mk #[]), LB false, LS (ByteArray.mk #[]), LS (ByteArray.mk #[]), LS (ByteArray.mk #[]), LI 3, LI 0, LI 0, LI 0], LI 1, LB false, LB false] (by kernel_rfl) ?_
    refine Calls.mono (add_bk _ _ _ _ _ _ _ _ _ _ _ _ _ _ _ _ _ _ _ _ hbk.bk (by constructor <;> decide +kernel)) ?_
    rintro e807 w807 ⟨v807, rfl, hbv807, hk807, hv807⟩
    obtain ⟨hbk, hR807⟩ := hbk.after hR806 hBw hbv807 hk807 hv807 [] (by kernel_rfl) (by simp)
    refine Back.of (.tup [LI ((addM (addM (addM [] (Tm.mk (ByteArray.mk #[80]) (ByteArray.mk #[]) (ByteArray.mk #[]) (ByteArray.mk #[]) true (ByteArray.mk #[]) (ByteArray.mk #[]) (ByteArray.mk #[]) 3 0 0 0) 1 false false).fst (Tm.mk (ByteArray.mk #[81]) (ByteArray.mk #[]) (ByteArray.mk #[]) (ByteArray.mk #[]) false (ByteArray.mk #[]) (ByteArray.mk #[]) (ByteArray.mk #[]) 3 0 0 0) 1 false false).fst (Tm.mk (ByteArray.mk #[81]) (ByteArray.mk #[]) (ByteArray.mk #[]) (ByteArray.mk #[]) false (ByteArray.mk #[]) (ByteArray.mk #[]) (ByteArray.mk #[]) 3 0 0 0) 1 false false).snd.fst), LI ((addM (addM (addM [] (Tm.mk (ByteArray.mk #[80]) (ByteArray.mk #[]) (ByteArray.mk #[]) (ByteArray.mk #[]) true (ByteArray.mk #[]) (ByteArray.mk #[]) (ByteArray.mk #[]) 3 0 0 0) 1 false false).fst (Tm.mk (ByteArray.mk #[81]) (ByteArray.mk #[]) (ByteArray.mk #[]) (ByteArray.mk #[]) false (ByteArray.mk #[]) (ByteArray.mk #[]) (ByteArray.mk #[]) 3 0 0 0) 1 false false).fst (Tm.mk (ByteArray.mk #[81]) (ByteArray.mk #[]) (ByteArray.mk #[]) (ByteArray.mk #[]) false (ByteArray.mk #[]) (ByteArray.mk #[]) (ByteArray.mk #[]) 3 0 0 0) 1 false false).snd.snd)]) hR807 rfl ?_
    refine sim_run 5 [] hR807 (by kernel_rfl) trivial (fun ρ808 w808 hm808 hR808 => ?_)
    have hbk := hbk.moved hm808
    refine sim_call 24 [.v (Value.pointer (some (Addr.mk g 0 none))), LI 1, LI 2, LI 9] (by kernel_rfl) ?_
    refine Calls.mono (pair_bk _ _ _ _ _ _ _ _ hbk.bk (by unfold Is64 at *; omega) (by unfold Is64 at *; omega)) ?_
    rintro e809 w809 ⟨v809, rfl, hbv809, hk809, hv809⟩
    obtain ⟨hbk, hR809⟩ := hbk.after hR808 hBw hbv809 hk809 hv809 [] (by kernel_rfl) (by simp)
    refine Back.of (LI ((pairM (addM (addM (addM [] (Tm.mk (ByteArray.mk #[80]) (ByteArray.mk #[]) (ByteArray.mk #[]) (ByteArray.mk #[]) true (ByteArray.mk #[]) (ByteArray.mk #[]) (ByteArray.mk #[]) 3 0 0 0) 1 false false).fst (Tm.mk (ByteArray.mk #[81]) (ByteArray.mk #[]) (ByteArray.mk #[]) (ByteArray.mk #[]) false (ByteArray.mk #[]) (ByteArray.mk #[]) (ByteArray.mk #[]) 3 0 0 0) 1 false false).fst (Tm.mk (ByteArray.mk #[81]) (ByteArray.mk #[]) (ByteArray.mk #[]) (ByteArray.mk #[]) false (ByteArray.mk #[]) (ByteArray.mk #[]) (ByteArray.mk #[]) 3 0 0 0) 1 false false).fst 1 2 9).snd)) hR809 rfl ?_
    refine sim_run 3 [] hR809 (by kernel_rfl) trivial (fun ρ810 w810 hm810 hR810 => ?_)
    have hbk := hbk.moved hm810
    refine sim_call 25 [.v (Value.pointer (some (Addr.mk g 0 none))), LS (ByteArray.mk #[80]), LI 2] (by kernel_rfl) ?_
    refine Calls.mono (cancel_bk _ _ _ _ _ _ _ hbk.bk (by unfold Is64 at *; omega) (by unfold Is64; decide +kernel)) ?_
    rintro e811 w811 ⟨v811, rfl, hbv811, hk811, hv811⟩
    obtain ⟨hbk, hR811⟩ := hbk.after hR810 hBw hbv811 hk811 hv811 [] (by kernel_rfl) (by simp)
    refine Back.of (LI ((cancelM (pairM (addM (addM (addM [] (Tm.mk (ByteArray.mk #[80]) (ByteArray.mk #[]) (ByteArray.mk #[]) (ByteArray.mk #[]) true (ByteArray.mk #[]) (ByteArray.mk #[]) (ByteArray.mk #[]) 3 0 0 0) 1 false false).fst (Tm.mk (ByteArray.mk #[81]) (ByteArray.mk #[]) (ByteArray.mk #[]) (ByteArray.mk #[]) false (ByteArray.mk #[]) (ByteArray.mk #[]) (ByteArray.mk #[]) 3 0 0 0) 1 false false).fst (Tm.mk (ByteArray.mk #[81]) (ByteArray.mk #[]) (ByteArray.mk #[]) (ByteArray.mk #[]) false (ByteArray.mk #[]) (ByteArray.mk #[]) (ByteArray.mk #[]) 3 0 0 0) 1 false false).fst 1 2 9).fst (ByteArray.mk #[80]) 2).snd)) hR811 rfl ?_
    refine sim_run 4 [] hR811 (by kernel_rfl) trivial (fun ρ812 w812 hm812 hR812 => ?_)
    have hbk := hbk.moved hm812
    refine sim_call 25 [.v (Value.pointer (some (Addr.mk g 0 none))), LS (ByteArray.mk #[81]), LI 3] (by kernel_rfl) ?_
    refine Calls.mono (cancel_bk _ _ _ _ _ _ _ hbk.bk (by unfold Is64 at *; omega) (by unfold Is64; decide +kernel)) ?_
    rintro e813 w813 ⟨v813, rfl, hbv813, hk813, hv813⟩
    obtain ⟨hbk, hR813⟩ := hbk.after hR812 hBw hbv813 hk813 hv813 [] (by kernel_rfl) (by simp)
    refine Back.of (LI ((cancelM (cancelM (pairM (addM (addM (addM [] (Tm.mk (ByteArray.mk #[80]) (ByteArray.mk #[]) (ByteArray.mk #[]) (ByteArray.mk #[]) true (ByteArray.mk #[]) (ByteArray.mk #[]) (ByteArray.mk #[]) 3 0 0 0) 1 false false).fst (Tm.mk (ByteArray.mk #[81]) (ByteArray.mk #[]) (ByteArray.mk #[]) (ByteArray.mk #[]) false (ByteArray.mk #[]) (ByteArray.mk #[]) (ByteArray.mk #[]) 3 0 0 0) 1 false false).fst (Tm.mk (ByteArray.mk #[81]) (ByteArray.mk #[]) (ByteArray.mk #[]) (ByteArray.mk #[]) false (ByteArray.mk #[]) (ByteArray.mk #[]) (ByteArray.mk #[]) 3 0 0 0) 1 false false).fst 1 2 9).fst (ByteArray.mk #[80]) 2).fst (ByteArray.mk #[81]) 3).snd)) hR813 rfl ?_
    refine sim_run 13 [] hR813 (by kernel_rfl) trivial (fun ρ814 w814 hm814 hR814 => ?_)
    have hbk := hbk.moved hm814
    refine sim_call 25 [.v (Value.pointer (some (Addr.mk g 0 none))), LS (ByteArray.mk #[80]), LI 1] (by kernel_rfl) ?_
    refine Calls.mono (cancel_bk _ _ _ _ _ _ _ hbk.bk (by unfold Is64 at *; omega) (by unfold Is64; decide +kernel)) ?_
    rintro e815 w815 ⟨v815, rfl, hbv815, hk815, hv815⟩
    obtain ⟨hbk, hR815⟩ := hbk.after hR814 hBw hbv815 hk815 hv815 [] (by kernel_rfl) (by simp)
    refine Back.of (LI ((cancelM (cancelM (cancelM (pairM (addM (addM (addM [] (Tm.mk (ByteArray.mk #[80]) (ByteArray.mk #[]) (ByteArray.mk #[]) (ByteArray.mk #[]) true (ByteArray.mk #[]) (ByteArray.mk #[]) (ByteArray.mk #[]) 3 0 0 0) 1 false false).fst (Tm.mk (ByteArray.mk #[81]) (ByteArray.mk #[]) (ByteArray.mk #[]) (ByteArray.mk #[]) false (ByteArray.mk #[]) (ByteArray.mk #[]) (ByteArray.mk #[]) 3 0 0 0) 1 false false).fst (Tm.mk (ByteArray.mk #[81]) (ByteArray.mk #[]) (ByteArray.mk #[]) (ByteArray.mk #[]) false (ByteArray.mk #[]) (ByteArray.mk #[]) (ByteArray.mk #[]) 3 0 0 0) 1 false false).fst 1 2 9).fst (ByteArray.mk #[80]) 2).fst (ByteArray.mk #[81]) 3).fst (ByteArray.mk #[80]) 1).snd)) hR815 rfl ?_
    refine sim_run 9 [] hR815 (by kernel_rfl) trivial (fun ρ816 w816 hm816 hR816 => ?_)
    have hbk := hbk.moved hm816
    refine sim_call 26 [.v (Value.pointer (some (Addr.mk g 0 none))), LS (ByteArray.mk #[80]), LI 1] (by kernel_rfl) ?_
    refine Calls.mono (keep_bk _ _ _ _ _ _ _ hbk.bk (by unfold Is64 at *; omega)) ?_
    rintro e817 w817 ⟨v817, rfl, hbv817, hk817, hv817⟩
    obtain ⟨hbk, hR817⟩ := hbk.after hR816 hBw hbv817 hk817 hv817 [] (by kernel_rfl) (by simp)
    refine Back.of (LI (mayM (cancelM (cancelM (cancelM (pairM (addM (addM (addM [] (Tm.mk (ByteArray.mk #[80]) (ByteArray.mk #[]) (ByteArray.mk #[]) (ByteArray.mk #[]) true (ByteArray.mk #[]) (ByteArray.mk #[]) (ByteArray.mk #[]) 3 0 0 0) 1 false false).fst (Tm.mk (ByteArray.mk #[81]) (ByteArray.mk #[]) (ByteArray.mk #[]) (ByteArray.mk #[]) false (ByteArray.mk #[]) (ByteArray.mk #[]) (ByteArray.mk #[]) 3 0 0 0) 1 false false).fst (Tm.mk (ByteArray.mk #[81]) (ByteArray.mk #[]) (ByteArray.mk #[]) (ByteArray.mk #[]) false (ByteArray.mk #[]) (ByteArray.mk #[]) (ByteArray.mk #[]) 3 0 0 0) 1 false false).fst 1 2 9).fst (ByteArray.mk #[80]) 2).fst (ByteArray.mk #[81]) 3).fst (ByteArray.mk #[80]) 1).fst (ByteArray.mk #[80]) 1)) hR817 rfl ?_
    refine sim_run 9 [] hR817 (by kernel_rfl) trivial (fun ρ818 w818 hm818 hR818 => ?_)
    have hbk := hbk.moved hm818
    refine sim_call 25 [.v (Value.pointer (some (Addr.mk g 0 none))), LS (ByteArray.mk #[81]), LI 2] (by kernel_rfl) ?_
    refine Calls.mono (cancel_bk _ _ _ _ _ _ _ hbk.bk (by unfold Is64 at *; omega) (by unfold Is64; decide +kernel)) ?_
    rintro e819 w819 ⟨v819, rfl, hbv819, hk819, hv819⟩
    obtain ⟨hbk, hR819⟩ := hbk.after hR818 hBw hbv819 hk819 hv819 [] (by kernel_rfl) (by simp)
    refine Back.of (LI ((cancelM (keepM (cancelM (cancelM (cancelM (pairM (addM (addM (addM [] (Tm.mk (ByteArray.mk #[80]) (ByteArray.mk #[]) (ByteArray.mk #[]) (ByteArray.mk #[]) true (ByteArray.mk #[]) (ByteArray.mk #[]) (ByteArray.mk #[]) 3 0 0 0) 1 false false).fst (Tm.mk (ByteArray.mk #[81]) (ByteArray.mk #[]) (ByteArray.mk #[]) (ByteArray.mk #[]) false (ByteArray.mk #[]) (ByteArray.mk #[]) (ByteArray.mk #[]) 3 0 0 0) 1 false false).fst (Tm.mk (ByteArray.mk #[81]) (ByteArray.mk #[]) (ByteArray.mk #[]) (ByteArray.mk #[]) false (ByteArray.mk #[]) (ByteArray.mk #[]) (ByteArray.mk #[]) 3 0 0 0) 1 false false).fst 1 2 9).fst (ByteArray.mk #[80]) 2).fst (ByteArray.mk #[81]) 3).fst (ByteArray.mk #[80]) 1).fst (ByteArray.mk #[80]) 1) (ByteArray.mk #[81]) 2).snd)) hR819 rfl ?_
    refine sim_run 4 [] hR819 (by kernel_rfl) trivial (fun ρ820 w820 hm820 hR820 => ?_)
    have hbk := hbk.moved hm820
    refine sim_call 22 [.v (Value.pointer (some (Addr.mk g 0 none))), LI 1] (by kernel_rfl) ?_
    refine Calls.mono (get_bk _ _ _ _ _ _ hbk.bk (by unfold Is64 at *; omega)) ?_
    rintro e821 w821 ⟨rfl, hb821⟩
    have hR821 := hR820.below hb821
    have hbk := hbk.below hb821
    refine Back.of (.tup [.agg (((getM (cancelM (keepM (cancelM (cancelM (cancelM (pairM (addM (addM (addM [] (Tm.mk (ByteArray.mk #[80]) (ByteArray.mk #[]) (ByteArray.mk #[]) (ByteArray.mk #[]) true (ByteArray.mk #[]) (ByteArray.mk #[]) (ByteArray.mk #[]) 3 0 0 0) 1 false false).fst (Tm.mk (ByteArray.mk #[81]) (ByteArray.mk #[]) (ByteArray.mk #[]) (ByteArray.mk #[]) false (ByteArray.mk #[]) (ByteArray.mk #[]) (ByteArray.mk #[]) 3 0 0 0) 1 false false).fst (Tm.mk (ByteArray.mk #[81]) (ByteArray.mk #[]) (ByteArray.mk #[]) (ByteArray.mk #[]) false (ByteArray.mk #[]) (ByteArray.mk #[]) (ByteArray.mk #[]) 3 0 0 0) 1 false false).fst 1 2 9).fst (ByteArray.mk #[80]) 2).fst (ByteArray.mk #[81]) 3).fst (ByteArray.mk #[80]) 1).fst (ByteArray.mk #[80]) 1) (ByteArray.mk #[81]) 2).fst 1).fst).cells.map .v), LI ((getM (cancelM (keepM (cancelM (cancelM (cancelM (pairM (addM (addM (addM [] (Tm.mk (ByteArray.mk #[80]) (ByteArray.mk #[]) (ByteArray.mk #[]) (ByteArray.mk #[]) true (ByteArray.mk #[]) (ByteArray.mk #[]) (ByteArray.mk #[]) 3 0 0 0) 1 false false).fst (Tm.mk (ByteArray.mk #[81]) (ByteArray.mk #[]) (ByteArray.mk #[]) (ByteArray.mk #[]) false (ByteArray.mk #[]) (ByteArray.mk #[]) (ByteArray.mk #[]) 3 0 0 0) 1 false false).fst (Tm.mk (ByteArray.mk #[81]) (ByteArray.mk #[]) (ByteArray.mk #[]) (ByteArray.mk #[]) false (ByteArray.mk #[]) (ByteArray.mk #[]) (ByteArray.mk #[]) 3 0 0 0) 1 false false).fst 1 2 9).fst (ByteArray.mk #[80]) 2).fst (ByteArray.mk #[81]) 3).fst (ByteArray.mk #[80]) 1).fst (ByteArray.mk #[80]) 1) (ByteArray.mk #[81]) 2).fst 1).snd)]) hR821 rfl ?_
    refine sim_run 10 [] hR821 (by kernel_rfl) trivial (fun ρ822 w822 hm822 hR822 => ?_)
    have hbk := hbk.moved hm822
    refine sim_call 22 [.v (Value.pointer (some (Addr.mk g 0 none))), LI 2] (by kernel_rfl) ?_
    refine Calls.mono (get_bk _ _ _ _ _ _ hbk.bk (by unfold Is64 at *; omega)) ?_
    rintro e823 w823 ⟨rfl, hb823⟩
    have hR823 := hR822.below hb823
    have hbk := hbk.below hb823
    refine Back.of (.tup [.agg (((getM (cancelM (keepM (cancelM (cancelM (cancelM (pairM (addM (addM (addM [] (Tm.mk (ByteArray.mk #[80]) (ByteArray.mk #[]) (ByteArray.mk #[]) (ByteArray.mk #[]) true (ByteArray.mk #[]) (ByteArray.mk #[]) (ByteArray.mk #[]) 3 0 0 0) 1 false false).fst (Tm.mk (ByteArray.mk #[81]) (ByteArray.mk #[]) (ByteArray.mk #[]) (ByteArray.mk #[]) false (ByteArray.mk #[]) (ByteArray.mk #[]) (ByteArray.mk #[]) 3 0 0 0) 1 false false).fst (Tm.mk (ByteArray.mk #[81]) (ByteArray.mk #[]) (ByteArray.mk #[]) (ByteArray.mk #[]) false (ByteArray.mk #[]) (ByteArray.mk #[]) (ByteArray.mk #[]) 3 0 0 0) 1 false false).fst 1 2 9).fst (ByteArray.mk #[80]) 2).fst (ByteArray.mk #[81]) 3).fst (ByteArray.mk #[80]) 1).fst (ByteArray.mk #[80]) 1) (ByteArray.mk #[81]) 2).fst 2).fst).cells.map .v), LI ((getM (cancelM (keepM (cancelM (cancelM (cancelM (pairM (addM (addM (addM [] (Tm.mk (ByteArray.mk #[80]) (ByteArray.mk #[]) (ByteArray.mk #[]) (ByteArray.mk #[]) true (ByteArray.mk #[]) (ByteArray.mk #[]) (ByteArray.mk #[]) 3 0 0 0) 1 false false).fst (Tm.mk (ByteArray.mk #[81]) (ByteArray.mk #[]) (ByteArray.mk #[]) (ByteArray.mk #[]) false (ByteArray.mk #[]) (ByteArray.mk #[]) (ByteArray.mk #[]) 3 0 0 0) 1 false false).fst (Tm.mk (ByteArray.mk #[81]) (ByteArray.mk #[]) (ByteArray.mk #[]) (ByteArray.mk #[]) false (ByteArray.mk #[]) (ByteArray.mk #[]) (ByteArray.mk #[]) 3 0 0 0) 1 false false).fst 1 2 9).fst (ByteArray.mk #[80]) 2).fst (ByteArray.mk #[81]) 3).fst (ByteArray.mk #[80]) 1).fst (ByteArray.mk #[80]) 1) (ByteArray.mk #[81]) 2).fst 2).snd)]) hR823 rfl ?_
    refine sim_run 10 [] hR823 (by kernel_rfl) trivial (fun ρ824 w824 hm824 hR824 => ?_)
    have hbk := hbk.moved hm824
    refine sim_call 22 [.v (Value.pointer (some (Addr.mk g 0 none))), LI 3] (by kernel_rfl) ?_
    refine Calls.mono (get_bk _ _ _ _ _ _ hbk.bk (by unfold Is64 at *; omega)) ?_
    rintro e825 w825 ⟨rfl, hb825⟩
    have hR825 := hR824.below hb825
    have hbk := hbk.below hb825
    refine Back.of (.tup [.agg (((getM (cancelM (keepM (cancelM (cancelM (cancelM (pairM (addM (addM (addM [] (Tm.mk (ByteArray.mk #[80]) (ByteArray.mk #[]) (ByteArray.mk #[]) (ByteArray.mk #[]) true (ByteArray.mk #[]) (ByteArray.mk #[]) (ByteArray.mk #[]) 3 0 0 0) 1 false false).fst (Tm.mk (ByteArray.mk #[81]) (ByteArray.mk #[]) (ByteArray.mk #[]) (ByteArray.mk #[]) false (ByteArray.mk #[]) (ByteArray.mk #[]) (ByteArray.mk #[]) 3 0 0 0) 1 false false).fst (Tm.mk (ByteArray.mk #[81]) (ByteArray.mk #[]) (ByteArray.mk #[]) (ByteArray.mk #[]) false (ByteArray.mk #[]) (ByteArray.mk #[]) (ByteArray.mk #[]) 3 0 0 0) 1 false false).fst 1 2 9).fst (ByteArray.mk #[80]) 2).fst (ByteArray.mk #[81]) 3).fst (ByteArray.mk #[80]) 1).fst (ByteArray.mk #[80]) 1) (ByteArray.mk #[81]) 2).fst 3).fst).cells.map .v), LI ((getM (cancelM (keepM (cancelM (cancelM (cancelM (pairM (addM (addM (addM [] (Tm.mk (ByteArray.mk #[80]) (ByteArray.mk #[]) (ByteArray.mk #[]) (ByteArray.mk #[]) true (ByteArray.mk #[]) (ByteArray.mk #[]) (ByteArray.mk #[]) 3 0 0 0) 1 false false).fst (Tm.mk (ByteArray.mk #[81]) (ByteArray.mk #[]) (ByteArray.mk #[]) (ByteArray.mk #[]) false (ByteArray.mk #[]) (ByteArray.mk #[]) (ByteArray.mk #[]) 3 0 0 0) 1 false false).fst (Tm.mk (ByteArray.mk #[81]) (ByteArray.mk #[]) (ByteArray.mk #[]) (ByteArray.mk #[]) false (ByteArray.mk #[]) (ByteArray.mk #[]) (ByteArray.mk #[]) 3 0 0 0) 1 false false).fst 1 2 9).fst (ByteArray.mk #[80]) 2).fst (ByteArray.mk #[81]) 3).fst (ByteArray.mk #[80]) 1).fst (ByteArray.mk #[80]) 1) (ByteArray.mk #[81]) 2).fst 3).snd)]) hR825 rfl ?_
    refine sim_run 21 [] hR825 (by kernel_rfl) trivial (fun ρ826 w826 hm826 hR826 => ?_)
    have hbk := hbk.moved hm826
    refine sim_call 20 [] (by kernel_rfl) ?_
    refine Calls.mono (alive14_any _) ?_
    rintro e827 w827 ⟨rfl, hb827⟩
    have hR827 := hR826.below hb827
    have hbk := hbk.below hb827
    refine Back.of (LB true) hR827 rfl ?_
    refine sim_run 29 [] hR827 (by kernel_rfl) trivial (fun ρ828 w828 hm828 hR828 => ?_)
    have hbk := hbk.moved hm828
    refine sim_ret (LB true) hR828 (by kernel_rfl) (by kernel_rfl) ?_
    exact ⟨rfl, hR828.toBelow⟩
    
end Go.Proofs.Ytodjhkmbgennaaa
