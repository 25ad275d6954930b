/-
  cmp.Or at two ints.
-/
import Derived.Test.YtioehmngkoffaaaSimHN
import Derived.Test.YtioehmngkoffaaaProg
import Derived.IntWalk
namespace Go.Proofs.Ytioehmngkoffaaa
open Go Go.RowKit
attribute [local irreducible] run goO goN ordGoN eqlOf eqlOper eqlOfO cellL leaveK someK nextK nextT nextOT nextOD loopBody loopRest loopK fillJ tmplOf tmplJ mergeT At AtO drawOk ordOf gateOf callC callO topOp topO idxOf appOf storeOf clearOf sliceOf calleeOf calleeO topQ idxQ newRowOf resL stepOp seek

def orZ (a b : Int) : Int := if a = 0 then b else a
set_option maxRecDepth 100000 in
/-- the first of two ints that is not 0; they lie in one place of the caller's -/
theorem or_any (a b : Int) (g o : Nat) (w : World) (h0 : w.cell? ⟨g, o + 0, none⟩ = some (.int .i64 a)) (h1 : w.cell? ⟨g, o + 1, none⟩ = some (.int .i64 b)) : Calls Try.prog 33 #[.slice (some ⟨g, o + 0, none⟩) 2 2] w fun e w' => e = .returned (.int .i64 (orZ a b)) ∧ Below w.heap.size w w' := by
  obtain ⟨ρ, _, hn, hR⟩ := (Rel.start [] w ρ0).open_ rfl g o [LI a, LI b] rfl false (World.block_lt_of_cell? _ _ h0) (fun i v hv => by
    match i, hv with
    | 0, hv => injection hv with hv; rw [← hv]; exact h0
    | 1, hv => injection hv with hv; rw [← hv]; exact h1) (fun h => by cases h) (fun n r hn => by simp at hn)
  have hn0 : ρ 0 = (g, o) := hn
  refine sim_enter Try.func33 ρ [.slc 0 0 2 2] [⟨[LI a, LI b], false⟩] (by kernel_rfl) (by simp only [denL, LV.den, Nm.at_, hn0]) ?_
  refine sim_run 1000 [] (hR.cast rfl) (by kernel_rfl) trivial (fun ρ1 w1 hm1 hR1 => ?_)
  refine sim_unroll 10 (by kernel_rfl) ?_
  refine sim_run 1000 [] hR1 (by kernel_rfl) trivial (fun ρ2 w2 hm2 hR2 => ?_)
  refine sim_idx 0 0 2 2 0 1 (by kernel_rfl) (by decide) ?_
  by_cases ha : a = 0
  · refine sim_run 1000 [⟨5, 2, LB (a != 0), LB false⟩] hR2 (by kernel_rfl) ⟨eqb (by simp [ha]), trivial⟩ (fun ρ3 w3 hm3 hR3 => ?_)
    refine sim_idx 0 0 2 2 1 1 (by kernel_rfl) (by decide) ?_
    have e : orZ a b = b := if_pos ha
    by_cases hb : b = 0
    · refine sim_run 1000 [⟨5, 2, LB (b != 0), LB false⟩] hR3 (by kernel_rfl) ⟨eqb (by simp [hb]), trivial⟩ (fun ρ4 w4 hm4 hR4 => ?_)
      refine sim_ret (LI 0) hR4 (by kernel_rfl) (by kernel_rfl) ⟨by rw [e, hb]; rfl, hR4.toBelow⟩
    · refine sim_run 1000 [⟨5, 2, LB (b != 0), LB true⟩] hR3 (by kernel_rfl) ⟨eqb (by simp [hb]), trivial⟩ (fun ρ4 w4 hm4 hR4 => ?_)
      refine sim_ret (LI b) hR4 (by kernel_rfl) (by kernel_rfl) ⟨by rw [e]; rfl, hR4.toBelow⟩
  · refine sim_run 1000 [⟨5, 2, LB (a != 0), LB true⟩] hR2 (by kernel_rfl) ⟨eqb (by simp [ha]), trivial⟩ (fun ρ3 w3 hm3 hR3 => ?_)
    refine sim_ret (LI a) hR3 (by kernel_rfl) (by kernel_rfl) ⟨by rw [show orZ a b = a from if_neg ha]; rfl, hR3.toBelow⟩
end Go.Proofs.Ytioehmngkoffaaa
