/-
  The contract of money's Acc.over.
-/
import Derived.Test.YtioehmngkoffaaaWords
import Derived.Test.YtioehmngkoffaaaProg
namespace Go.Proofs.Ytioehmngkoffaaa
open Go.RowKit

def IsI64 (x : Int) : Prop := -9223372036854775808 ≤ x ∧ x ≤ 9223372036854775807

theorem wrapU_nat (x : Int) (h0 : 0 ≤ x) (h1 : x < 18446744073709551616) : IntKind.u64.wrap x = x := by rw [IntKind.wrap_u64]; exact Int.emod_eq_of_lt h0 h1

theorem over_nil (below : Bool) (w : World) : Calls Try.prog 41 #[.pointer none, .bool below] w fun e w' => e = .returned (.int .i64 (if below then -1152921504606846976 else 1152921504606846976)) ∧ w = w' := by
  cases below
  all_goals
    go_enter Try.func41, Try.ntmps41
    go_wp2
    go_ret
    exact ⟨rfl, rfl⟩
theorem over_set (b : Nat) (o below : Bool) (w : World) (h : Blk w b 67 #[.bool o]) :
    Calls Try.prog 41 #[.pointer (some ⟨b, 0, none⟩), .bool below] w fun e w' => e = .returned (.int .i64 (if below then -1152921504606846976 else 1152921504606846976)) ∧ w.setCell ⟨b, 0, none⟩ (.bool true) = w' := by
  have h0 := h.cell 0
  have f0 := h.frozen 0
  simp at h0
  cases below
  all_goals
    go_enter Try.func41, Try.ntmps41
    go_wp2
    go_ret
    exact ⟨rfl, rfl⟩

end Go.Proofs.Ytioehmngkoffaaa
