/-
  book: what a book is in memory; isPrio.
-/
import Derived.Test.YtodjhkmbgennaaaBookOwn
import Derived.Test.YtodjhkmbgennaaaSlI
import Derived.Test.YtodjhkmbgennaaaSimHN
namespace Go.Proofs.Ytodjhkmbgennaaa
open Go Go.RowKit
attribute [local irreducible] run goO goN ordGoN eqlOf eqlOper eqlOfO cellL leaveK someK nextK nextT nextOT nextOD loopBody loopRest loopK fillJ tmplOf tmplJ mergeT At AtO drawOk ordOf gateOf callC callO topOp topO idxOf appOf storeOf clearOf sliceOf calleeOf calleeO topQ idxQ newRowOf resL stepOp seek

/-- a book at block g: its one cell v is a row of its own that holds these instructions -/
structure BkV (w : World) (B g : Nat) (v : Value) (xs : List In) : Prop where
  cell : Blk w g 85 #[v]
  row : w.ownsRow B 25 21 v xs.length (insts xs)
  ne : v.ownBlock ≠ some g
  ge : B ≤ g
def isPrioB (n : Int) : Bool := decide (n ≥ 1) && decide (n ≤ 4)
set_option maxRecDepth 100000 in
theorem isPrio_any (n : Int) (w : World) : Calls Try.prog 47 #[.int .i64 n] w fun e w' => e = .returned (.bool (isPrioB n)) ∧ Below w.heap.size w w' := by
  refine sim_enter Try.func47 ρ0 [LI n] [] (by kernel_rfl) rfl ?_
  unfold isPrioB
  cases h : decide (n ≥ 1) with
  | true =>
    refine sim_run 1000 [⟨1, 1, LB (decide (n ≥ 1)), LB true⟩] (Rel.start [] w ρ0) (by kernel_rfl) ⟨eqb h, trivial⟩ (fun ρ1 w1 hm1 hR1 => ?_)
    exact sim_ret (LB (decide (n ≤ 4))) hR1 (by kernel_rfl) (by kernel_rfl) ⟨rfl, hR1.toBelow⟩
  | false =>
    refine sim_run 1000 [⟨1, 1, LB (decide (n ≥ 1)), LB false⟩] (Rel.start [] w ρ0) (by kernel_rfl) ⟨eqb h, trivial⟩ (fun ρ1 w1 hm1 hR1 => ?_)
    exact sim_ret (LB false) hR1 (by kernel_rfl) (by kernel_rfl) ⟨rfl, hR1.toBelow⟩
/-- the block of a row of one's own -/
def rowB : Value → Nat
  | .slice (some a) _ _ => a.block
  | _ => 0
def atV (v : Value) (len : Nat) (id : Int) : Value := if id < 1 ∨ id > len then .pointer none else .pointer (some ⟨rowB v, (id - 1).toNat * 21, none⟩)
set_option maxRecDepth 100000 in
theorem at_slc (A : Option Addr) (len cap : Nat) (id : Int) (hid : Is64 id) (w : World) (g o : Nat) (hg : w.cell? ⟨g, o, none⟩ = some (.slice A len cap)) (hA : 0 < len → ∃ h, A = some ⟨h, 0, none⟩) :
    Calls Try.prog 49 #[.pointer (some ⟨g, o, none⟩), .int .i64 id] w fun e w' => e = .returned (atV (.slice A len cap) len id) ∧ Below w.heap.size w w' := by
  obtain ⟨ρ, _, hn0, hR⟩ := (Rel.start [] w ρ0).open_ rfl g o [.v (.slice A len cap)] rfl false (World.block_lt_of_cell? _ _ hg) (fun j v hv => by
    match j, hv with
    | 0, hv => injection hv with hv; rw [← hv]; exact hg) (fun h => by cases h) (fun n r hn => by simp at hn)
  have e0 : ρ 0 = (g, o) := hn0
  refine sim_enter Try.func49 ρ [.ptr 0 0, LI id] [⟨[.v (.slice A len cap)], false⟩] (by kernel_rfl) (by simp only [denL, LV.den, Nm.at_, e0, Nat.add_zero]) ?_
  unfold atV
  cases h1 : decide (id < 1) with
  | true =>
    refine sim_run 1000 [⟨1, 4, LB (decide (id < 1)), LB true⟩] (hR.cast rfl) (by kernel_rfl) ⟨eqb h1, trivial⟩ (fun ρ1 w1 hm1 hR1 => ?_)
    refine sim_ret (.v (.pointer none)) hR1 (by kernel_rfl) (by kernel_rfl) ⟨?_, hR1.toBelow⟩
    rw [if_pos (.inl (of_decide_eq_true h1))]
    rfl
  | false =>
    cases h2 : decide (id > (len : Int)) with
    | true =>
      refine sim_run 1000 [⟨1, 4, LB (decide (id < 1)), LB false⟩, ⟨1, 13, LB (decide (id > (len : Int))), LB true⟩] (hR.cast rfl) (by kernel_rfl) ⟨eqb h1, eqb h2, trivial⟩ (fun ρ1 w1 hm1 hR1 => ?_)
      refine sim_ret (.v (.pointer none)) hR1 (by kernel_rfl) (by kernel_rfl) ⟨?_, hR1.toBelow⟩
      rw [if_pos (.inr (of_decide_eq_true h2))]
      rfl
    | false =>
      have g1 := of_decide_eq_false h1
      have g2 := of_decide_eq_false h2
      obtain ⟨h, rfl⟩ := hA (by omega)
      refine sim_run 1000 [⟨1, 4, LB (decide (id < 1)), LB false⟩, ⟨1, 13, LB (decide (id > (len : Int))), LB false⟩, ⟨3, 5, LI (IntKind.i64.wrap (id - 1)), LI (id - 1)⟩] (hR.cast rfl) (by kernel_rfl) ⟨eqb h1, eqb h2, eqi (IntWalk.i64_in _ (by unfold Is64 at hid; omega)), trivial⟩ (fun ρ1 w1 hm1 hR1 => ?_)
      refine sim_addr (.v (.slice (some ⟨h, 0, none⟩) len cap)) len 21 (id - 1) (by kernel_rfl) (by omega) (by omega) rfl ?_
      refine sim_run 1000 [] hR1 (by kernel_rfl) trivial (fun ρ2 w2 hm2 hR2 => ?_)
      refine sim_ret (.v (.pointer (some ⟨h, 0 + (id - 1).toNat * 21, none⟩))) hR2 (by kernel_rfl) (by kernel_rfl) ⟨?_, hR2.toBelow⟩
      rw [if_neg (by omega)]
      simp only [rowB, Nat.zero_add, LV.den]
end Go.Proofs.Ytodjhkmbgennaaa
