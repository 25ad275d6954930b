/-
  Contracts of match: far, Far, Differ.
-/
import Derived.Test.YtnojkclgjinjhaaInst
import Derived.Test.YtnojkclgjinjhaaOrds
import Derived.IntWalk
import Derived.Deep.CutBlock
import Derived.Deep.CutRange
namespace Go.Proofs.Ytnojkclgjinjhaa
open Go.RowKit

theorem u64_sub {a b : Int} (ha : Is64 a) (hb : Is64 b) (h : b ≤ a) : IntKind.u64.wrap (IntKind.u64.wrap a - IntKind.u64.wrap b) = ((a - b).natAbs : Int) := by
  obtain ⟨a0, a1⟩ := ha
  obtain ⟨b0, b1⟩ := hb
  simp only [IntKind.wrap_u64]
  omega

theorem far_any (a b : Int) (ha : Is64 a) (hb : Is64 b) (w : World) : Calls Try.prog 19 #[.int .i64 a, .int .i64 b] w fun e w' => e = .returned (.int .u64 ((a - b).natAbs : Int)) ∧ w = w' := by
  by_cases h : a < b
  · have HW := Lib.hid (u64_sub hb ha (by omega))
    have hab : (b - a).natAbs = (a - b).natAbs := by omega
    have HAB := Lib.hid hab
    clear ha hb hab
    go_enter Try.func19, Try.ntmps19
    go_wp2_with (first | rw [HW.out])
    go_ret
    exact ⟨ret_int (by rw [← HAB.out]), rfl⟩
  · have HW := Lib.hid (u64_sub ha hb (by omega))
    clear ha hb
    go_enter Try.func19, Try.ntmps19
    go_wp2_with (first | rw [HW.out])
    go_ret
    exact ⟨rfl, rfl⟩

/-- a guarded operation that only reads: what it leaves, whether it is wanted or not -/
theorem wpOrd_may {P : Program} {ops : Array Oper} {Q : Exit → Act → World → Prop} {S : World → Prop} {i : Nat} {o : Oper} {v : Value} {c : Bool} {r : List (Nat × Bool)} {a : Act} {w : World} (ho : ops[i]? = some o) (hw : Region.wanted o (yielded ops a.tmps) = c)
    (hy : c = true → ∀ w, S w → (execOp a.eval o).run P w = .ok (.value v) w) (h : wpOrd P ops Q S r (a.put o.dst (if c = true then v else undef)) w) : wpOrd P ops Q S ((i, false) :: r) a w := by
  refine ⟨o, if c = true then v else undef, ho, ?_, h⟩
  cases c
  · exact .inr ⟨hw, rfl⟩
  · exact .inl ⟨hw, hy rfl⟩

end Go.Proofs.Ytnojkclgjinjhaa
