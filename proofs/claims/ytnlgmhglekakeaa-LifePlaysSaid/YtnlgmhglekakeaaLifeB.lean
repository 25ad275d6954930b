/-
  Contracts of life.Next, Name, New and of the reference's Next, Open, Over, Name.
-/
import Derived.Test.YtnlgmhglekakeaaLife
namespace Go.Proofs.Ytnlgmhglekakeaa
open Go.RowKit

def nextF (s e : Int) : Int × Bool :=
  if e = 0 ∧ s = 0 then (1, true)
  else if e = 1 ∧ (s = 1 ∨ s = 2) then (2, true)
  else if e = 2 ∧ (s = 1 ∨ s = 2) then (3, true)
  else if e = 3 ∧ 0 ≤ s ∧ s ≤ 2 then (4, true)
  else if e = 4 ∧ 0 ≤ s ∧ s ≤ 2 then (5, true)
  else (s, false)

def TwoNext (s e : Int) (w : World) (en : Ending) (w' : World) : Prop :=
  en = .returned (.tuple #[.int .i64 (nextF s e).1, .bool (nextF s e).2]) ∧ Below w.heap.size w w'

theorem two_mk {s e : Int} {w w' : World} {a : Int} {b : Bool} (h1 : nextF s e = (a, b)) (h2 : Below w.heap.size w w') : TwoNext s e w (.returned (.tuple #[.int .i64 a, .bool b])) w' := by
  unfold TwoNext; rw [h1]; exact ⟨rfl, h2⟩

theorem open1 (s : Int) (w : World) : Reads (w.alloc (.cells #[.int .i64 s] 3)) (w.heap.size + 1) 1 (some ⟨w.heap.size, 0, none⟩) 1 (ints [s]) := by
  have h := (Blk.new w 3 #[.int .i64 s]).reads (n := 1) rfl
  simpa [ints] using h

theorem next_no (s e : Int) (w : World) (h : allB [s] 0 2 = false) : Calls Try.prog 7 #[.int .i64 s, .int .i64 e] w (TwoNext s e w) := by
  have hf : nextF s e = (s, false) := by
    have : ¬ (0 ≤ s ∧ s ≤ 2) := by simp [allB, inB] at h; omega
    unfold nextF
    repeat rw [if_neg (by omega)]
  have H := Lib.hid h
  have HF := Lib.hid hf
  clear h hf
  go_enter Try.func7, Try.ntmps7
  go_wp2_with fail
  refine (open_any _ 1 1 [s] _ _ (open1 s w) (by omega)).mono ?_
  rintro en w1 ⟨rfl, rfl⟩
  rw [H.out]
  go_wp2_with fail
  go_ret2
  have := two_mk (w := w) HF.out ((Below.refl w.heap.size w).alloc (Nat.le_refl _) (.cells #[.int .i64 s] 3))
  simpa using this

set_option maxHeartbeats 4000000 in
theorem next_yes (s e : Int) (w : World) (h : s = 0 ∨ s = 1 ∨ s = 2) (he : e = 0 ∨ e = 1 ∨ e = 2 ∨ e = 3 ∨ e = 4 ∨ e < 0 ∨ 4 < e) :
    Calls Try.prog 7 #[.int .i64 s, .int .i64 e] w (TwoNext s e w) := by
  have hf : ∀ p : Int × Bool, nextF s e = p → Hid (nextF s e = p) := fun _ h => h
  rcases h with rfl | rfl | rfl <;> rcases he with rfl | rfl | rfl | rfl | rfl | he | he
  all_goals
    go_enter Try.func7, Try.ntmps7
    go_wp2_with fail
    refine (open_any _ 1 1 [_] _ _ (open1 _ w) (by omega)).mono ?_
    rintro en w1 ⟨rfl, rfl⟩
    simp only [show allB [(0 : Int)] 0 2 = true from by decide, show allB [(1 : Int)] 0 2 = true from by decide, show allB [(2 : Int)] 0 2 = true from by decide]
    go_wp2_with fail
    go_ret2
    refine two_mk ?_ ((Below.refl w.heap.size w).alloc (Nat.le_refl _) _)
    simp only [nextF]
    repeat (first | rfl | rw [if_neg (by omega)] | rw [if_pos (by omega)])

theorem next_any (s e : Int) (w : World) : Calls Try.prog 7 #[.int .i64 s, .int .i64 e] w (TwoNext s e w) := by
  by_cases h : 0 ≤ s ∧ s ≤ 2
  · exact next_yes s e w (by omega) (by omega)
  · exact next_no s e w (by simp [allB, inB]; omega)
end Go.Proofs.Ytnlgmhglekakeaa
