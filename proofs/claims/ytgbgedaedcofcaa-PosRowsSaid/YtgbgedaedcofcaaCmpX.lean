/-
  cmp.Compare at string, name.Compare, cmp.Or at two ints: the world stands.
-/
import Derived.Test.YtgbgedaedcofcaaCmpS
import Derived.Test.YtgbgedaedcofcaaCmpO
import Derived.Test.YtgbgedaedcofcaaOrds
import Derived.IntWalk
import Derived.Deep.CutBlock
import Derived.Deep.CutRange
namespace Go.Proofs.Ytgbgedaedcofcaa
open Go Go.RowKit

theorem isNaNS_x (a : ByteArray) (w : World) : Calls Try.prog 87 #[.string a] w fun e w' => e = .returned (.bool false) ∧ w = w' := by
  have HE := Lib.hid (show (!(a.toList == a.toList)) = false by simp)
  go_enter Try.func87, Try.ntmps87
  go_wp2_with (first | rw [HE.out])
  go_ret
  exact ⟨ret_bool (by simp), rfl⟩
set_option maxRecDepth 100000 in
theorem compareS_x (a b : ByteArray) (w : World) : Calls Try.prog 75 #[.string a, .string b] w fun e w' => e = .returned (.int .i64 (cmpS a b)) ∧ w = w' := by
  have ha := fun w => isNaNS_x a w
  have hb := fun w => isNaNS_x b w
  go_enter Try.func75, Try.ntmps75
  go_wp2_with (go_at_call 87; first | (refine (ha _).mono ?_; rintro e w' ⟨rfl, rfl⟩) | (refine (hb _).mono ?_; rintro e w' ⟨rfl, rfl⟩))
  · rename_i h1
    go_ret
    exact ⟨ret_int (show cmpS a b = -1 from if_pos h1).symm, rfl⟩
  · rename_i h1 _ _ h2
    have hg : ltS b a = true := by rw [← gt_text, h1]; simpa using h2
    go_ret
    exact ⟨ret_int (show cmpS a b = 1 by unfold cmpS; rw [if_neg (by unfold ltS; rw [h1]; simp), if_pos hg]).symm, rfl⟩
  · rename_i h1 h2
    have hg : ltS b a = false := by rw [← gt_text, h1]; simpa using h2
    go_ret
    exact ⟨ret_int (show cmpS a b = 0 by unfold cmpS; rw [if_neg (by unfold ltS; rw [h1]; simp), if_neg (by rw [hg]; simp)]).symm, rfl⟩
set_option maxRecDepth 100000 in
theorem nameCompare_x (a b : ByteArray) (w : World) : Calls Try.prog 53 #[.string a, .string b] w fun e w' => e = .returned (.int .i64 (cmpS a b)) ∧ w = w' := by
  have ha := fun w => compareS_x a b w
  go_enter Try.func53, Try.ntmps53
  go_wp2_with (go_at_call 75; refine (ha _).mono ?_; rintro e w' ⟨rfl, rfl⟩)
  go_ret
  exact ⟨rfl, rfl⟩
end Go.Proofs.Ytgbgedaedcofcaa
