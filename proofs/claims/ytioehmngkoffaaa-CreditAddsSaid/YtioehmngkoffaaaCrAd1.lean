/-
  CreditAdds: what is told at the end.
-/
import Derived.Test.YtioehmngkoffaaaCrPd
import Derived.Test.YtioehmngkoffaaaTree
namespace Go.Proofs.Ytioehmngkoffaaa
open Go Go.RowKit
/-- the law holds, and nothing that was there is another -/
def okC (w0 : World) (e : Ending) (w' : World) : Prop := e = .returned (.bool true) ∧ Below w0.heap.size w0 w'
attribute [local irreducible] run goO leaveK someK nextK nextT nextOT nextOD loopBody loopRest loopK fillJ tmplOf tmplJ mergeT At AtO drawOk ordOf gateOf callC callO topOp topO idxOf appOf storeOf clearOf sliceOf calleeOf calleeO topQ idxQ newRowOf resL stepOp seek
set_option maxRecDepth 100000 in
set_option maxHeartbeats 4000000 in
theorem adds_22 (w0 : World) (q : LnP) (pb : Nat) (o p : Int) (w : World) (ρ : Nm) (hR : Rel [] w0 ρ [] w) (hG : LnG w0.heap.size q ρ [] w) (hb : q.b = pb) (hst : St q o p) (d : Nat → Value) :
    At Try.prog (bodyPost Try.prog Try.f5 (okC w0)) ⟨regK Try.f5 22, fillJ (tmplJ Try.f5.ntmps 0 [(3, .v (.pointer (some ⟨pb, 0, none⟩))), (4, LI o), (5, LI p)]) d 0, []⟩ ρ w := by
  unfold okC
  refine sim_run 1 [] (hR.cast (by kernel_rfl)) (by kernel_rfl) trivial (fun ρ100 w100 hm100 hR100 => ?_)
  have hG := hG.moved (hm100.castL (by kernel_rfl))
  
  have hf := free_any q bA bE _ hG.sta.is
  rw [hb] at hf
  refine sim_call 10 [.v (.pointer (some ⟨pb, 0, none⟩)), LS bA, LS bE] (by kernel_rfl) ?_
  refine hf.mono ?_
  rintro e7 w7 hT
  obtain ⟨hk7, hcc7⟩ := free_St hG.sta.is hst hT
  have hR7 := hG.rel ((by assumption : Rel _ _ _ _ _)) hk7 [] (by kernel_rfl) (fun _ h => absurd h List.not_mem_nil)
  have ho0 := hst.o0
  rcases hcc7 with ⟨h0, rfl, _⟩ | ⟨h0, h1, rfl, _⟩ | ⟨h0, h1, A7, c7, rfl, ho7, hb7, hsa7⟩
  · subst h0
    refine Back.of (.tup [.v (.slice none 0 0), LI 7]) hR7 rfl ?_
    clear hG hf
    refine sim_run 15 [] (hR7.cast (by kernel_rfl)) (by kernel_rfl) trivial (fun ρ200 w200 hm200 hR200 => ?_)
    refine sim_call 6 [] (by kernel_rfl) ?_
    refine Calls.mono (alive21_any _) ?_
    rintro e201 w201 ⟨rfl, hb201⟩
    have hR201 := hR200.below hb201
    refine Back.of (LB true) hR201 rfl ?_
    refine sim_run 6 [] (hR201.cast (by kernel_rfl)) (by kernel_rfl) trivial (fun ρ202 w202 hm202 hR202 => ?_)
    refine sim_ret (LB true) hR202 (by kernel_rfl) (by kernel_rfl) ?_
    exact ⟨rfl, hR202.toBelow⟩
    
  · refine Back.of (.tup [.v (.slice none 0 0), LI 20]) hR7 rfl ?_
    clear hG hf
    refine sim_run 12 [] (hR7.cast (by kernel_rfl)) (by kernel_rfl) trivial (fun ρ300 w300 hm300 hR300 => ?_)
    refine sim_know 82 (p == 0) false (by kernel_rfl) (decide_eq_false (by omega)) ?_
    refine sim_run 8 [] (hR300.cast (by kernel_rfl)) (by kernel_rfl) trivial (fun ρ301 w301 hm301 hR301 => ?_)
    refine sim_know 89 (decide (o > 0)) true (by kernel_rfl) (decide_eq_true (by omega)) ?_
    refine sim_run 3 [] (hR301.cast (by kernel_rfl)) (by kernel_rfl) trivial (fun ρ302 w302 hm302 hR302 => ?_)
    refine sim_call 6 [] (by kernel_rfl) ?_
    refine Calls.mono (alive21_any _) ?_
    rintro e303 w303 ⟨rfl, hb303⟩
    have hR303 := hR302.below hb303
    refine Back.of (LB true) hR303 rfl ?_
    refine sim_run 11 [] (hR303.cast (by kernel_rfl)) (by kernel_rfl) trivial (fun ρ304 w304 hm304 hR304 => ?_)
    refine sim_ret (LB true) hR304 (by kernel_rfl) (by kernel_rfl) ?_
    exact ⟨rfl, hR304.toBelow⟩
    
  · subst h1
    have ho7 : Own _ _ w7 0 49 2 (.slice A7 1 c7) 1 (plV [⟨bX, p⟩]) := ⟨ho7, fun y hy => hG.sta.far y (hb7 y hy)⟩
    obtain ⟨q5, hbq5, hG7, hst7⟩ := hG.st (by assumption : Rel [] w0 _ _ _) (by assumption : Rel [] w0 _ _ _).keeps.size hsa7
    have hbq5 := hbq5.trans hb
    clear hG hst hf hsa7
    have hG := hG7
    clear hG7
    obtain ⟨g7, rfl⟩ := own_spot ho7.own (by omega)
    refine Back.of (.tup [.v (.slice (some ⟨g7, 0, none⟩) 1 c7), LI 0]) hR7 rfl ?_
    refine sim_seeO (xss := [[.string bX, .int .i64 p]]) (sz := 2) [.string bX, .int .i64 p] 0 0 (by kernel_rfl) rfl ho7 (by intro y hy; rw [List.mem_singleton.1 hy]; rfl) (by omega) (by omega) hR7 (by kernel_rfl) (fun ρ9 hm9 e9 hR9 => ?_)
    have hG := hG.moved hm9
    have hag := hR9.ag_ 1 (by kernel_rfl)
    clear ho7 hR7
    refine sim_run 12 [] (hR9.cast (by kernel_rfl)) (by kernel_rfl) trivial (fun ρ400 w400 hm400 hR400 => ?_)
    have hG := hG.moved (hm400.castL (by kernel_rfl))
    have hag := hag.moved (hm400.castL (by kernel_rfl))
    refine sim_know 82 (p == 0) false (by kernel_rfl) (decide_eq_false (by omega)) ?_
    refine sim_run 12 [] (hR400.cast (by kernel_rfl)) (by kernel_rfl) trivial (fun ρ401 w401 hm401 hR401 => ?_)
    have hG := hG.moved (hm401.castL (by kernel_rfl))
    have hag := hag.moved (hm401.castL (by kernel_rfl))
    refine sim_call 6 [] (by kernel_rfl) ?_
    refine Calls.mono (alive21_any _) ?_
    rintro e402 w402 ⟨rfl, hb402⟩
    have hR402 := hR401.below hb402
    have hG := hG.below hb402
    refine Back.of (LB true) hR402 rfl ?_
    refine sim_run 11 [] (hR402.cast (by kernel_rfl)) (by kernel_rfl) trivial (fun ρ403 w403 hm403 hR403 => ?_)
    have hag := hag.moved (hm403.castL (by kernel_rfl))
    have hG := hG.moved (hm403.castL (by kernel_rfl))
    refine sim_place (.v (.slice (some ⟨g7, 0, none⟩) 1 c7)) 1 2 0 0 0 (by kernel_rfl) (by omega) (by omega) rfl (by simp only [Nm.at_, hag.at_ 0 (by omega), e9]; rfl) ?_
    refine sim_run 6 [] (hR403.cast (by kernel_rfl)) (by kernel_rfl) trivial (fun ρ405 w405 hm405 hR405 => ?_)
    have hag := hag.moved (hm405.castL (by kernel_rfl))
    have hG := hG.moved (hm405.castL (by kernel_rfl))
    refine sim_know 118 (p == p) true (by kernel_rfl) (decide_eq_true (by omega)) ?_
    refine sim_run 1 [] (hR405.cast (by kernel_rfl)) (by kernel_rfl) trivial (fun ρ406 w406 hm406 hR406 => ?_)
    have hag := hag.moved (hm406.castL (by kernel_rfl))
    have hG := hG.moved (hm406.castL (by kernel_rfl))
    
    have hls := loans_any q5 none 0 0 0 [] _ hG.sta.is (hst7.ok.mono (Nat.le_refl _) (by omega)) ⟨rfl, fun h => absurd h (Nat.lt_irrefl 0)⟩ rfl (Nat.zero_le _) (by omega)
    rw [hbq5] at hls
    refine sim_call 8 [.v (.pointer (some ⟨pb, 0, none⟩)), .v (.slice none 0 0)] (by kernel_rfl) ?_
    refine hls.mono ?_
    rintro e10 w10 ⟨⟨As, cs, vs⟩, rfl, _, htold, hb10⟩
    have hR10 := ((by assumption : Rel _ _ _ _ _)).below hb10
    have hnl := (hst7.loans.resolve_right (fun h => absurd h.1 (Int.lt_irrefl 0))).2.2
    rw [hnl] at htold
    have hvs := told_nil htold
    subst hvs
    refine Back.of (.v (.slice As 0 cs)) hR10 rfl ?_
    clear hG hls htold
    refine sim_run 5 [] (hR10.cast (by kernel_rfl)) (by kernel_rfl) trivial (fun ρ500 w500 hm500 hR500 => ?_)
    have hag := hag.moved (hm500.castL (by kernel_rfl))
    refine sim_ret (LB true) hR500 (by kernel_rfl) (by kernel_rfl) ?_
    exact ⟨rfl, hR500.toBelow⟩
    
end Go.Proofs.Ytioehmngkoffaaa
