/-
  life.Open at one state; life.Next.
-/
import Derived.Test.YtodjhkmbgennaaaBookB
namespace Go.Proofs.Ytodjhkmbgennaaa
open Go Go.RowKit
attribute [local irreducible] run goO goN ordGoN eqlOf eqlOper eqlOfO cellL leaveK someK nextK nextT nextOT nextOD loopBody loopRest loopK fillJ tmplOf tmplJ mergeT At AtO drawOk ordOf gateOf callC callO topOp topO idxOf appOf storeOf clearOf sliceOf calleeOf calleeO topQ idxQ newRowOf resL stepOp seek

def openB (s : Int) : Bool := !(decide (s < 0) || decide (s > 2))
set_option maxRecDepth 100000 in
theorem all_any (s : Int) (g o : Nat) (w : World) (h : w.cell? ⟨g, o, none⟩ = some (.int .i64 s)) : Calls Try.prog 53 #[.slice (some ⟨g, o, none⟩) 1 1, .int .i64 0, .int .i64 2] w fun e w' => e = .returned (.bool (openB s)) ∧ Below w.heap.size w w' := by
  obtain ⟨ρ, _, hn0, hR⟩ := (Rel.start [] w ρ0).open_ rfl g o [LI s] rfl false (World.block_lt_of_cell? _ _ h) (fun j v hv => by
    match j, hv with
    | 0, hv => injection hv with hv; rw [← hv]; exact h) (fun h => by cases h) (fun n r hn => by simp at hn)
  have e0 : ρ 0 = (g, o) := hn0
  refine sim_enter Try.func53 ρ [.slc 0 0 1 1, LI 0, LI 2] [⟨[LI s], false⟩] (by kernel_rfl) (by simp only [denL, LV.den, Nm.at_, e0, Nat.add_zero]) ?_
  refine sim_run 1000 [] (hR.cast rfl) (by kernel_rfl) trivial (fun ρ1 w1 hm1 hR1 => ?_)
  refine sim_unroll 2 (by kernel_rfl) ?_
  refine sim_run 1000 [] hR1 (by kernel_rfl) trivial (fun ρ2 w2 hm2 hR2 => ?_)
  refine sim_idx 0 0 1 1 0 1 (by kernel_rfl) (by omega) ?_
  unfold openB
  cases h1 : decide (s < 0) with
  | true =>
    refine sim_run 1000 [⟨4, 2, LB (decide (s < 0)), LB true⟩] hR2 (by kernel_rfl) ⟨eqb h1, trivial⟩ (fun ρ3 w3 hm3 hR3 => ?_)
    exact sim_ret (LB false) hR3 (by kernel_rfl) (by kernel_rfl) ⟨rfl, hR3.toBelow⟩
  | false =>
    cases h2 : decide (s > 2) with
    | true =>
      refine sim_run 1000 [⟨4, 2, LB (decide (s < 0)), LB false⟩, ⟨4, 6, LB (decide (s > 2)), LB true⟩] hR2 (by kernel_rfl) ⟨eqb h1, eqb h2, trivial⟩ (fun ρ3 w3 hm3 hR3 => ?_)
      exact sim_ret (LB false) hR3 (by kernel_rfl) (by kernel_rfl) ⟨rfl, hR3.toBelow⟩
    | false =>
      refine sim_run 1000 [⟨4, 2, LB (decide (s < 0)), LB false⟩, ⟨4, 6, LB (decide (s > 2)), LB false⟩] hR2 (by kernel_rfl) ⟨eqb h1, eqb h2, trivial⟩ (fun ρ3 w3 hm3 hR3 => ?_)
      exact sim_ret (LB true) hR3 (by kernel_rfl) (by kernel_rfl) ⟨rfl, hR3.toBelow⟩
set_option maxRecDepth 100000 in
theorem open_any (s : Int) (g o : Nat) (w : World) (h : w.cell? ⟨g, o, none⟩ = some (.int .i64 s)) : Calls Try.prog 31 #[.slice (some ⟨g, o, none⟩) 1 1] w fun e w' => e = .returned (.bool (openB s)) ∧ Below w.heap.size w w' := by
  obtain ⟨ρ, _, hn0, hR⟩ := (Rel.start [] w ρ0).open_ rfl g o [LI s] rfl false (World.block_lt_of_cell? _ _ h) (fun j v hv => by
    match j, hv with
    | 0, hv => injection hv with hv; rw [← hv]; exact h) (fun h => by cases h) (fun n r hn => by simp at hn)
  have e0 : ρ 0 = (g, o) := hn0
  refine sim_enter Try.func31 ρ [.slc 0 0 1 1] [⟨[LI s], false⟩] (by kernel_rfl) (by simp only [denL, LV.den, Nm.at_, e0, Nat.add_zero]) ?_
  refine sim_run 1000 [] (hR.cast rfl) (by kernel_rfl) trivial (fun ρ1 w1 hm1 hR1 => ?_)
  have e1 : ρ1 0 = (g, o) := by rw [hm1.at_ 0 (by kernel_rfl), e0]
  have h1 := hR1.cell 0 ⟨[LI s], false⟩ (by kernel_rfl) 0 (LI s) rfl
  refine sim_call 53 [.slc 0 0 1 1, LI 0, LI 2] (by kernel_rfl) ?_
  simp only [denL, LV.den, Nm.at_, e1, Nat.add_zero] at h1 ⊢
  refine (all_any s g o w1 h1).mono ?_
  rintro e w2 ⟨rfl, hb2⟩
  have hR2 := hR1.below hb2
  refine Back.of (LB (openB s)) hR2 rfl ?_
  refine sim_run 1000 [] hR2 (by kernel_rfl) trivial (fun ρ3 w3 hm3 hR3 => ?_)
  exact sim_ret (LB (openB s)) hR3 (by kernel_rfl) (by kernel_rfl) ⟨rfl, hR3.toBelow⟩
end Go.Proofs.Ytodjhkmbgennaaa
