/-
  book.Get.
-/
import Derived.Test.YtodjhkmbgennaaaBookA
import Derived.Test.YtodjhkmbgennaaaSlJ
namespace Go.Proofs.Ytodjhkmbgennaaa
open Go Go.RowKit
attribute [local irreducible] run goO goN ordGoN eqlOf eqlOper eqlOfO cellL leaveK someK nextK nextT nextOT nextOD loopBody loopRest loopK fillJ tmplOf tmplJ mergeT At AtO drawOk ordOf gateOf callC callO topOp topO idxOf appOf storeOf clearOf sliceOf calleeOf calleeO topQ idxQ newRowOf resL stepOp seek

def getM (xs : List In) (id : Int) : In × Int := if id < 1 ∨ id > xs.length then (zeroIn, 3) else (xs.getD (id - 1).toNat zeroIn, 0)
set_option maxRecDepth 100000 in
theorem get_slc (A : Option Addr) (len cap B : Nat) (xs : List In) (id : Int) (hid : Is64 id) (w : World) (g : Nat) (hg : w.cell? ⟨g, 0, none⟩ = some (.slice A len cap)) (hA : 0 < len → ∃ h, A = some ⟨h, 0, none⟩) (hr : Reads w B 21 A len (insts xs)) (hB : B ≤ w.heap.size) :
    Calls Try.prog 22 #[.pointer (some ⟨g, 0, none⟩), .int .i64 id] w fun e w' => e = .returned (.tuple #[(getM xs id).1.val, .int .i64 (getM xs id).2]) ∧ Below w.heap.size w w' := by
  have hl := hr.insts_len
  obtain ⟨ρ, _, hn0, hR⟩ := (Rel.start [] w ρ0).open_ rfl g 0 [.v (.slice A len cap)] rfl false (World.block_lt_of_cell? _ _ hg) (fun j v hv => by
    match j, hv with
    | 0, hv => injection hv with hv; rw [← hv]; exact hg) (fun h => by cases h) (fun n r hn => by simp at hn)
  have e0 : ρ 0 = (g, 0) := hn0
  refine sim_enter Try.func22 ρ [.ptr 0 0, LI id] [⟨[.v (.slice A len cap)], false⟩] (by kernel_rfl) (by simp only [denL, LV.den, Nm.at_, e0, Nat.add_zero]) ?_
  refine sim_run 1000 [] (hR.cast rfl) (by kernel_rfl) trivial (fun ρ1 w1 hm1 hR1 => ?_)
  have hb1 : Below w.heap.size w w1 := hR1.toBelow
  have hg1 : w1.cell? ⟨g, 0, none⟩ = some (.slice A len cap) := (hb1.cell (p := ⟨g, 0, none⟩) (World.block_lt_of_cell? _ _ hg)).trans hg
  have e1 : ρ1 0 = (g, 0) := by rw [hm1.at_ 0 (by kernel_rfl), e0]
  unfold getM
  by_cases ho : id < 1 ∨ id > xs.length
  · rw [if_pos ho]
    refine sim_call 49 [.ptr 0 0, LI id] (by kernel_rfl) ?_
    have hc := at_slc A len cap id hid w1 g 0 hg1 hA
    simp only [denL, LV.den, Nm.at_, e1, Nat.add_zero]
    refine hc.mono ?_
    unfold atV
    rw [if_pos (by omega)]
    rintro e w2 ⟨rfl, hb2⟩
    have hR2 := hR1.below hb2
    refine Back.of (.v (.pointer none)) hR2 rfl ?_
    refine sim_run 1000 [] hR2 (by kernel_rfl) trivial (fun ρ3 w3 hm3 hR3 => ?_)
    exact sim_ret (.tup [.agg (zeroIn.cells.map .v), LI 3]) hR3 (by kernel_rfl) (by kernel_rfl) ⟨rfl, hR3.toBelow⟩
  · rw [if_neg ho]
    have hk : (id - 1).toNat < len := by omega
    obtain ⟨h, rfl⟩ := hA (by omega)
    refine sim_view (id - 1).toNat 2 (by kernel_rfl) hk hr hB hR1 (by kernel_rfl) (fun g' o' x ρ2 hA' hx ha2 hn2 hR2 => ?_)
    obtain ⟨rfl, rfl⟩ : h = g' ∧ 0 = o' := by injection hA' with e; injection e with e1 e2; exact ⟨e1, e2⟩
    have e2 : ρ2 0 = (g, 0) := by rw [ha2 0 (by omega), e1]
    refine sim_call 49 [.ptr 0 0, LI id] (by kernel_rfl) ?_
    have hc := at_slc (some ⟨h, 0, none⟩) len cap id hid w1 g 0 hg1 hA
    simp only [denL, LV.den, Nm.at_, e2, Nat.add_zero]
    refine hc.mono ?_
    unfold atV
    rw [if_neg (by omega)]
    rintro e w2 ⟨rfl, hb2⟩
    have hR3 := hR2.below hb2
    refine Back.of (.ptr 2 0) hR3 (by simp only [rowB, LV.den, Nm.at_, hn2, Nat.zero_add, Nat.add_zero]) ?_
    refine sim_run 1000 [] hR3 (by kernel_rfl) trivial (fun ρ3 w3 hm3 hR4 => ?_)
    refine sim_ret (.tup [.agg (x.cells.map .v), LI 0]) hR4 (by kernel_rfl) (by kernel_rfl) ⟨?_, hR4.toBelow⟩
    rw [List.getD_eq_getElem?_getD, hx]
    rfl
end Go.Proofs.Ytodjhkmbgennaaa
