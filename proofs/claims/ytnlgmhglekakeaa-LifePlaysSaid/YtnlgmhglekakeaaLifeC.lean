/-
  Contracts of life.Name, New, Do, State, Done and of the reference's Next, Open, Over, Name.
-/
import Derived.Test.YtnlgmhglekakeaaLifeB
namespace Go.Proofs.Ytnlgmhglekakeaa
open Go.RowKit

def nameF (s : Int) : ByteArray :=
  if s = 0 then ⟨#[112, 101, 110, 100, 105, 110, 103]⟩
  else if s = 1 then ⟨#[109, 97, 116, 99, 104, 101, 100]⟩
  else if s = 2 then ⟨#[112, 97, 114, 116, 101, 100]⟩
  else if s = 3 then ⟨#[115, 101, 116, 116, 108, 101, 100]⟩
  else if s = 4 then ⟨#[99, 97, 110, 99, 101, 108, 108, 101, 100]⟩
  else if s = 5 then ⟨#[101, 120, 112, 105, 114, 101, 100]⟩
  else ⟨#[]⟩

def IsName (s : Int) (w : World) (en : Ending) (w' : World) : Prop := en = .returned (.string (nameF s)) ∧ Below w.heap.size w w'
theorem name_mk {s : Int} {w w' : World} {x : ByteArray} (h1 : nameF s = x) (h2 : Below w.heap.size w w') : IsName s w (.returned (.string x)) w' := by
  unfold IsName; rw [h1]; exact ⟨rfl, h2⟩

set_option maxHeartbeats 4000000 in
theorem name_yes (s : Int) (w : World) (h : s = 0 ∨ s = 1 ∨ s = 2 ∨ s = 3 ∨ s = 4 ∨ s = 5) :
    Calls Try.prog 12 #[.int .i64 s] w (IsName s w) := by
  rcases h with rfl | rfl | rfl | rfl | rfl | rfl
  all_goals
    go_enter Try.func12, Try.ntmps12
    go_wp2
    go_ret
    refine name_mk ?_ ((Below.refl w.heap.size w).alloc (Nat.le_refl _) _)
    rfl
theorem name_no (s : Int) (w : World) (h : s < 0 ∨ 6 ≤ s) :
    Calls Try.prog 12 #[.int .i64 s] w (IsName s w) := by
  have hf : nameF s = ⟨#[]⟩ := by unfold nameF; repeat rw [if_neg (by omega)]
  have HF := Lib.hid hf
  clear hf
  rcases h with h | h
  · go_enter Try.func12, Try.ntmps12
    go_wp2
    go_ret
    exact name_mk HF.out ((Below.refl w.heap.size w).alloc (Nat.le_refl _) _)
  · have h' : ¬ s < 0 := by omega
    go_enter Try.func12, Try.ntmps12
    go_wp2
    go_ret
    exact name_mk HF.out ((Below.refl w.heap.size w).alloc (Nat.le_refl _) _)
theorem name_any (s : Int) (w : World) : Calls Try.prog 12 #[.int .i64 s] w (IsName s w) := by
  by_cases h : s < 0 ∨ 6 ≤ s
  · exact name_no s w h
  · exact name_yes s w (by omega)

set_option maxHeartbeats 4000000 in
theorem refName_yes (s : Int) (w : World) (h : s = 0 ∨ s = 1 ∨ s = 2 ∨ s = 3 ∨ s = 4 ∨ s = 5) :
    Calls Try.prog 13 #[.int .i64 s] w (IsName s w) := by
  rcases h with rfl | rfl | rfl | rfl | rfl | rfl
  all_goals
    go_enter Try.func13, Try.ntmps13
    go_wp2
    go_ret
    refine name_mk ?_ ((Below.refl w.heap.size w).alloc (Nat.le_refl _) _)
    rfl
theorem refName_no (s : Int) (w : World) (h : s < 0 ∨ 6 ≤ s) :
    Calls Try.prog 13 #[.int .i64 s] w (IsName s w) := by
  have hf : nameF s = ⟨#[]⟩ := by unfold nameF; repeat rw [if_neg (by omega)]
  have HF := Lib.hid hf
  clear hf
  rcases h with h | h
  · go_enter Try.func13, Try.ntmps13
    go_wp2
    go_ret
    exact name_mk HF.out ((Below.refl w.heap.size w).alloc (Nat.le_refl _) _)
  · have h' : ¬ s < 0 := by omega
    go_enter Try.func13, Try.ntmps13
    go_wp2
    go_ret
    exact name_mk HF.out ((Below.refl w.heap.size w).alloc (Nat.le_refl _) _)
theorem refName_any (s : Int) (w : World) : Calls Try.prog 13 #[.int .i64 s] w (IsName s w) := by
  by_cases h : s < 0 ∨ 6 ≤ s
  · exact refName_no s w h
  · exact refName_yes s w (by omega)

theorem refOpen_any (s : Int) (w : World) : Calls Try.prog 9 #[.int .i64 s] w fun e w' => e = .returned (.bool (inB 0 2 s)) ∧ w = w' := by
  by_cases h1 : 0 ≤ s
  · by_cases h2 : s ≤ 2
    · go_enter Try.func9, Try.ntmps9
      go_wp2
      go_ret
      exact ⟨ret_bool (by simp [inB]; omega), rfl⟩
    · go_enter Try.func9, Try.ntmps9
      go_wp2
      go_ret
      exact ⟨ret_bool (by simp [inB]; omega), rfl⟩
  · go_enter Try.func9, Try.ntmps9
    go_wp2
    go_ret
    exact ⟨ret_bool (by simp [inB]; omega), rfl⟩
theorem refOver_any (s : Int) (w : World) : Calls Try.prog 10 #[.int .i64 s] w fun e w' => e = .returned (.bool (inB 3 5 s)) ∧ w = w' := by
  by_cases h1 : 3 ≤ s
  · by_cases h2 : s ≤ 5
    · go_enter Try.func10, Try.ntmps10
      go_wp2
      go_ret
      exact ⟨ret_bool (by simp [inB]; omega), rfl⟩
    · go_enter Try.func10, Try.ntmps10
      go_wp2
      go_ret
      exact ⟨ret_bool (by simp [inB]; omega), rfl⟩
  · go_enter Try.func10, Try.ntmps10
    go_wp2
    go_ret
    exact ⟨ret_bool (by simp [inB]; omega), rfl⟩
end Go.Proofs.Ytnlgmhglekakeaa
