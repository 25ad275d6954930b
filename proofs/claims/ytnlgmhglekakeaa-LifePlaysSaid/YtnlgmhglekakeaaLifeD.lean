/-
  Contracts of the reference's Next, and of life.New, Do, State, Done.
-/
import Derived.Test.YtnlgmhglekakeaaLifeC
namespace Go.Proofs.Ytnlgmhglekakeaa
open Go.RowKit

def TwoNextSame (s e : Int) (w : World) (en : Ending) (w' : World) : Prop :=
  en = .returned (.tuple #[.int .i64 (nextF s e).1, .bool (nextF s e).2]) ∧ w = w'
theorem two_same {s e : Int} {w : World} {a : Int} {b : Bool} (h1 : nextF s e = (a, b)) : TwoNextSame s e w (.returned (.tuple #[.int .i64 a, .bool b])) w := by
  unfold TwoNextSame; rw [h1]; exact ⟨rfl, rfl⟩

set_option maxHeartbeats 4000000 in
theorem refNext_yes (s e : Int) (w : World) (h : s = 0 ∨ s = 1 ∨ s = 2) (he : e = 0 ∨ e = 1 ∨ e = 2 ∨ e = 3 ∨ e = 4 ∨ e < 0 ∨ 4 < e) :
    Calls Try.prog 8 #[.int .i64 s, .int .i64 e] w (TwoNextSame s e w) := by
  rcases h with rfl | rfl | rfl <;> rcases he with rfl | rfl | rfl | rfl | rfl | he | he
  all_goals
    go_enter Try.func8, Try.ntmps8
    go_wp2
    go_ret2
    refine two_same ?_
    simp only [nextF]
    repeat (first | rfl | rw [if_neg (by omega)] | rw [if_pos (by omega)])
set_option maxHeartbeats 4000000 in
theorem refNext_no (s e : Int) (w : World) (h : s < 0 ∨ 2 < s) (he : e = 0 ∨ e = 1 ∨ e = 2 ∨ e = 3 ∨ e = 4 ∨ e < 0 ∨ 4 < e) :
    Calls Try.prog 8 #[.int .i64 s, .int .i64 e] w (TwoNextSame s e w) := by
  have q0 : (s == 0) = false := by simp; omega
  have q1 : (s == 1) = false := by simp; omega
  have q2 : (s == 2) = false := by simp; omega
  rcases h with h | h <;> rcases he with rfl | rfl | rfl | rfl | rfl | he | he
  all_goals
    go_enter Try.func8, Try.ntmps8
    go_wp2_with (first | (go_at_call 9; refine (refOpen_any _ _).mono ?_; rintro en w1 ⟨rfl, rfl⟩; rw [show inB 0 2 s = false from by simp [inB]; omega]))
    go_ret2
    refine two_same ?_
    simp only [nextF]
    repeat (first | rfl | rw [if_neg (by omega)] | rw [if_pos (by omega)])
theorem refNext_any (s e : Int) (w : World) : Calls Try.prog 8 #[.int .i64 s, .int .i64 e] w (TwoNextSame s e w) := by
  by_cases h : 0 ≤ s ∧ s ≤ 2
  · exact refNext_yes s e w (by omega) (by omega)
  · exact refNext_no s e w (by omega) (by omega)

def LT : TypeId := 38

theorem new_any (w : World) : Calls Try.prog 16 #[] w fun e w' => e = .returned (.pointer (some ⟨w.heap.size, 0, none⟩)) ∧ w.alloc (.cells #[.int .i64 0, .int .i64 0] 38) = w' := by
  go_enter Try.func16, Try.ntmps16
  go_wp2
  go_ret
  exact ⟨rfl, rfl⟩

theorem state_any (b : Nat) (s d : Int) (w : World) (h : Blk w b 38 #[.int .i64 s, .int .i64 d]) :
    Calls Try.prog 18 #[.pointer (some ⟨b, 0, none⟩)] w fun e w' => e = .returned (.int .i64 s) ∧ w = w' := by
  have h0 := h.cell 0
  simp at h0
  go_enter Try.func18, Try.ntmps18
  go_wp2
  go_ret
  exact ⟨rfl, rfl⟩
theorem state_nil (w : World) :
    Calls Try.prog 18 #[.pointer none] w fun e w' => e = .returned (.int .i64 0) ∧ w = w' := by
  go_enter Try.func18, Try.ntmps18
  go_wp2
  go_ret
  exact ⟨rfl, rfl⟩

theorem done_any (b : Nat) (s d : Int) (w : World) (h : Blk w b 38 #[.int .i64 s, .int .i64 d]) :
    Calls Try.prog 19 #[.pointer (some ⟨b, 0, none⟩)] w fun e w' => e = .returned (.int .i64 d) ∧ w = w' := by
  have h0 := h.cell 1
  simp at h0
  go_enter Try.func19, Try.ntmps19
  go_wp2
  go_ret
  exact ⟨rfl, rfl⟩
theorem done_nil (w : World) :
    Calls Try.prog 19 #[.pointer none] w fun e w' => e = .returned (.int .i64 0) ∧ w = w' := by
  go_enter Try.func19, Try.ntmps19
  go_wp2
  go_ret
  exact ⟨rfl, rfl⟩

end Go.Proofs.Ytnlgmhglekakeaa
