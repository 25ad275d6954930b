/-
  cmp.Compare at int and at uint64, cmp.Or at two ints.
-/
import Derived.Test.YtodjhkmbgennaaaSimHN
import Derived.Test.YtodjhkmbgennaaaProg
import Derived.IntWalk
namespace Go.Proofs.Ytodjhkmbgennaaa
open Go Go.RowKit
attribute [local irreducible] run goO goN ordGoN eqlOf eqlOper eqlOfO cellL leaveK someK nextK nextT nextOT nextOD loopBody loopRest loopK fillJ tmplOf tmplJ mergeT At AtO drawOk ordOf gateOf callC callO topOp topO idxOf appOf storeOf clearOf sliceOf calleeOf calleeO topQ idxQ newRowOf resL stepOp seek

def cmpZ (a b : Int) : Int := if a < b then -1 else if b < a then 1 else 0
theorem cmpZ_lt {a b : Int} (h : a < b) : cmpZ a b = -1 := if_pos h
theorem cmpZ_gt {a b : Int} (h : b < a) : cmpZ a b = 1 := by unfold cmpZ; rw [if_neg (by omega), if_pos h]
theorem cmpZ_eq {a b : Int} (h : ¬ a < b) (h' : ¬ b < a) : cmpZ a b = 0 := by unfold cmpZ; rw [if_neg h, if_neg h']

set_option maxRecDepth 100000 in
theorem compare_any (a b : Int) (w : World) : Calls Try.prog 46 #[.int .i64 a, .int .i64 b] w fun e w' => e = .returned (.int .i64 (cmpZ a b)) ∧ Below w.heap.size w w' := by
  refine sim_enter Try.func46 ρ0 [(.v (.int .i64 a)), (.v (.int .i64 b))] [] (by kernel_rfl) rfl ?_
  refine sim_run 1000 [] (Rel.start [] w ρ0) (by kernel_rfl) trivial (fun ρ1 w1 hm1 hR1 => ?_)
  refine sim_into Try.func61 [(.v (.int .i64 a))] (by kernel_rfl) (by kernel_rfl) ?_
  refine sim_run 1000 [⟨1, 2, LB (a != a), LB false⟩] hR1 (by kernel_rfl) ⟨eqb (by simp), trivial⟩ (fun ρ2 w2 hm2 hR2 => ?_)
  refine sim_out 0 (LB false) hR2 (by kernel_rfl) (by kernel_rfl) (fun n hn => absurd hn (by simp)) (by kernel_rfl) ?_
  refine sim_run 1000 [] hR2 (by kernel_rfl) trivial (fun ρ3 w3 hm3 hR3 => ?_)
  refine sim_into Try.func61 [(.v (.int .i64 b))] (by kernel_rfl) (by kernel_rfl) ?_
  refine sim_run 1000 [⟨1, 2, LB (b != b), LB false⟩] hR3 (by kernel_rfl) ⟨eqb (by simp), trivial⟩ (fun ρ4 w4 hm4 hR4 => ?_)
  refine sim_out 0 (LB false) hR4 (by kernel_rfl) (by kernel_rfl) (fun n hn => absurd hn (by simp)) (by kernel_rfl) ?_
  by_cases h : a < b
  · refine sim_run 1000 [⟨9, 2, LB (decide (a < b)), LB true⟩] hR4 (by kernel_rfl) ⟨eqb (by simpa using h), trivial⟩ (fun ρ5 w5 hm5 hR5 => ?_)
    refine sim_ret (LI (-1)) hR5 (by kernel_rfl) (by kernel_rfl) ⟨by rw [cmpZ_lt h]; rfl, hR5.toBelow⟩
  · by_cases h' : b < a
    · refine sim_run 1000 [⟨9, 2, LB (decide (a < b)), LB false⟩, ⟨11, 2, LB (decide (a > b)), LB true⟩] hR4 (by kernel_rfl) ⟨eqb (by simpa using h), eqb (by simpa using h'), trivial⟩ (fun ρ5 w5 hm5 hR5 => ?_)
      refine sim_ret (LI 1) hR5 (by kernel_rfl) (by kernel_rfl) ⟨by rw [cmpZ_gt h']; rfl, hR5.toBelow⟩
    · refine sim_run 1000 [⟨9, 2, LB (decide (a < b)), LB false⟩, ⟨11, 2, LB (decide (a > b)), LB false⟩] hR4 (by kernel_rfl) ⟨eqb (by simpa using h), eqb (by simpa using h'), trivial⟩ (fun ρ5 w5 hm5 hR5 => ?_)
      refine sim_ret (LI 0) hR5 (by kernel_rfl) (by kernel_rfl) ⟨by rw [cmpZ_eq h h']; rfl, hR5.toBelow⟩

set_option maxRecDepth 100000 in
theorem compareU_any (a b : Int) (w : World) : Calls Try.prog 45 #[.int .u64 a, .int .u64 b] w fun e w' => e = .returned (.int .i64 (cmpZ a b)) ∧ Below w.heap.size w w' := by
  refine sim_enter Try.func45 ρ0 [(.v (.int .u64 a)), (.v (.int .u64 b))] [] (by kernel_rfl) rfl ?_
  refine sim_run 1000 [] (Rel.start [] w ρ0) (by kernel_rfl) trivial (fun ρ1 w1 hm1 hR1 => ?_)
  refine sim_into Try.func60 [(.v (.int .u64 a))] (by kernel_rfl) (by kernel_rfl) ?_
  refine sim_run 1000 [⟨1, 2, LB (a != a), LB false⟩] hR1 (by kernel_rfl) ⟨eqb (by simp), trivial⟩ (fun ρ2 w2 hm2 hR2 => ?_)
  refine sim_out 0 (LB false) hR2 (by kernel_rfl) (by kernel_rfl) (fun n hn => absurd hn (by simp)) (by kernel_rfl) ?_
  refine sim_run 1000 [] hR2 (by kernel_rfl) trivial (fun ρ3 w3 hm3 hR3 => ?_)
  refine sim_into Try.func60 [(.v (.int .u64 b))] (by kernel_rfl) (by kernel_rfl) ?_
  refine sim_run 1000 [⟨1, 2, LB (b != b), LB false⟩] hR3 (by kernel_rfl) ⟨eqb (by simp), trivial⟩ (fun ρ4 w4 hm4 hR4 => ?_)
  refine sim_out 0 (LB false) hR4 (by kernel_rfl) (by kernel_rfl) (fun n hn => absurd hn (by simp)) (by kernel_rfl) ?_
  by_cases h : a < b
  · refine sim_run 1000 [⟨9, 2, LB (decide (a < b)), LB true⟩] hR4 (by kernel_rfl) ⟨eqb (by simpa using h), trivial⟩ (fun ρ5 w5 hm5 hR5 => ?_)
    refine sim_ret (LI (-1)) hR5 (by kernel_rfl) (by kernel_rfl) ⟨by rw [cmpZ_lt h]; rfl, hR5.toBelow⟩
  · by_cases h' : b < a
    · refine sim_run 1000 [⟨9, 2, LB (decide (a < b)), LB false⟩, ⟨11, 2, LB (decide (a > b)), LB true⟩] hR4 (by kernel_rfl) ⟨eqb (by simpa using h), eqb (by simpa using h'), trivial⟩ (fun ρ5 w5 hm5 hR5 => ?_)
      refine sim_ret (LI 1) hR5 (by kernel_rfl) (by kernel_rfl) ⟨by rw [cmpZ_gt h']; rfl, hR5.toBelow⟩
    · refine sim_run 1000 [⟨9, 2, LB (decide (a < b)), LB false⟩, ⟨11, 2, LB (decide (a > b)), LB false⟩] hR4 (by kernel_rfl) ⟨eqb (by simpa using h), eqb (by simpa using h'), trivial⟩ (fun ρ5 w5 hm5 hR5 => ?_)
      refine sim_ret (LI 0) hR5 (by kernel_rfl) (by kernel_rfl) ⟨by rw [cmpZ_eq h h']; rfl, hR5.toBelow⟩

def orZ (a b : Int) : Int := if a = 0 then b else a
set_option maxRecDepth 100000 in
/-- the first of two ints that is not 0; they lie in one place of the caller's -/
theorem or_any (a b : Int) (g o : Nat) (w : World) (h0 : w.cell? ⟨g, o + 0, none⟩ = some (.int .i64 a)) (h1 : w.cell? ⟨g, o + 1, none⟩ = some (.int .i64 b)) : Calls Try.prog 44 #[.slice (some ⟨g, o + 0, none⟩) 2 2] w fun e w' => e = .returned (.int .i64 (orZ a b)) ∧ Below w.heap.size w w' := by
  obtain ⟨ρ, _, hn, hR⟩ := (Rel.start [] w ρ0).open_ rfl g o [LI a, LI b] rfl false (World.block_lt_of_cell? _ _ h0) (fun i v hv => by
    match i, hv with
    | 0, hv => injection hv with hv; rw [← hv]; exact h0
    | 1, hv => injection hv with hv; rw [← hv]; exact h1) (fun h => by cases h) (fun n r hn => by simp at hn)
  have hn0 : ρ 0 = (g, o) := hn
  refine sim_enter Try.func44 ρ [.slc 0 0 2 2] [⟨[LI a, LI b], false⟩] (by kernel_rfl) (by simp only [denL, LV.den, Nm.at_, hn0]) ?_
  refine sim_run 1000 [] (hR.cast rfl) (by kernel_rfl) trivial (fun ρ1 w1 hm1 hR1 => ?_)
  refine sim_unroll 10 (by kernel_rfl) ?_
  refine sim_run 1000 [] hR1 (by kernel_rfl) trivial (fun ρ2 w2 hm2 hR2 => ?_)
  refine sim_idx 0 0 2 2 0 1 (by kernel_rfl) (by decide) ?_
  by_cases ha : a = 0
  · refine sim_run 1000 [⟨5, 2, LB (a != 0), LB false⟩] hR2 (by kernel_rfl) ⟨eqb (by simp [ha]), trivial⟩ (fun ρ3 w3 hm3 hR3 => ?_)
    refine sim_idx 0 0 2 2 1 1 (by kernel_rfl) (by decide) ?_
    have e : orZ a b = b := if_pos ha
    by_cases hb : b = 0
    · refine sim_run 1000 [⟨5, 2, LB (b != 0), LB false⟩] hR3 (by kernel_rfl) ⟨eqb (by simp [hb]), trivial⟩ (fun ρ4 w4 hm4 hR4 => ?_)
      refine sim_ret (LI 0) hR4 (by kernel_rfl) (by kernel_rfl) ⟨by rw [e, hb]; rfl, hR4.toBelow⟩
    · refine sim_run 1000 [⟨5, 2, LB (b != 0), LB true⟩] hR3 (by kernel_rfl) ⟨eqb (by simp [hb]), trivial⟩ (fun ρ4 w4 hm4 hR4 => ?_)
      refine sim_ret (LI b) hR4 (by kernel_rfl) (by kernel_rfl) ⟨by rw [e]; rfl, hR4.toBelow⟩
  · refine sim_run 1000 [⟨5, 2, LB (a != 0), LB true⟩] hR2 (by kernel_rfl) ⟨eqb (by simp [ha]), trivial⟩ (fun ρ3 w3 hm3 hR3 => ?_)
    refine sim_ret (LI a) hR3 (by kernel_rfl) (by kernel_rfl) ⟨by rw [show orZ a b = a from if_neg ha]; rfl, hR3.toBelow⟩
end Go.Proofs.Ytodjhkmbgennaaa
