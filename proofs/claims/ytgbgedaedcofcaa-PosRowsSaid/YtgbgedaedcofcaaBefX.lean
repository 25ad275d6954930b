/-
  pos.Before: what it answers, and the blocks that it lays.
-/
import Derived.Test.YtgbgedaedcofcaaCmpX
import Derived.Test.YtgbgedaedcofcaaPosC
import Derived.Sort.Grow
namespace Go.Proofs.Ytgbgedaedcofcaa
open Go Go.RowKit

/-- the first of two ints that is not 0 -/
theorem or_x (a b : Int) (g : Nat) (w : World) (h0 : w.cell? ⟨g, 0, none⟩ = some (.int .i64 a)) (h1 : w.cell? ⟨g, 1, none⟩ = some (.int .i64 b)) : Calls Try.prog 52 #[.slice (some ⟨g, 0, none⟩) 2 2] w fun e w' => e = .returned (.int .i64 (orZ a b)) ∧ w = w' := by
  have H0 := Lib.hid h0
  have H1 := Lib.hid h1
  clear h0 h1
  by_cases ha : a = 0
  · subst ha
    by_cases hb : b = 0
    · subst hb
      go_enter Try.func52, Try.ntmps52
      go_wp2
      refine wp_loop_rounds 3 ?_
      rw [rounds_succ]
      go_wp2_with (first | rw [H0.out] | rw [H1.out])
      rw [rounds_succ]
      go_wp2_with (first | rw [H0.out] | rw [H1.out])
      rw [rounds_succ]
      go_wp2_with (first | rw [H0.out] | rw [H1.out])
      go_ret
      exact ⟨rfl, rfl⟩
    · have HB := Lib.hid hb
      clear hb
      go_enter Try.func52, Try.ntmps52
      go_wp2
      refine wp_loop_rounds 3 ?_
      rw [rounds_succ]
      go_wp2_with (first | rw [H0.out] | rw [H1.out])
      rw [rounds_succ]
      go_wp2_with (first | rw [H0.out] | rw [H1.out])
      · go_ret
        exact ⟨ret_int (by unfold orZ; rw [if_pos rfl]), rfl⟩
      · rename_i h
        exact absurd (by simpa using h) HB.out
  · have HA := Lib.hid ha
    clear ha
    go_enter Try.func52, Try.ntmps52
    go_wp2
    refine wp_loop_rounds 3 ?_
    rw [rounds_succ]
    go_wp2_with (first | rw [H0.out] | rw [H1.out])
    · go_ret
      exact ⟨ret_int (by unfold orZ; rw [if_neg HA.out]), rfl⟩
    · rename_i h
      exact absurd (by simpa using h) HA.out
open Go.Sort
theorem grow3 (w : World) (a b c : Obj) : (((w.alloc a).alloc b).alloc c).drew = grow (w.drewN 1) #[a, b, c] := by
  have e : ((w.heap.push a).push b).push c = w.heap ++ #[a, b, c] := by apply Array.ext'; simp
  show ({ w with heap := ((w.heap.push a).push b).push c, drawn := w.drawn + 1 } : World) = { w with heap := w.heap ++ #[a, b, c], drawn := w.drawn + 1 }
  rw [e]
abbrev cmpK (a b : Key) : Int := orZ (cmpS a.1 b.1) (cmpS a.2 b.2)
set_option maxRecDepth 100000 in
set_option maxHeartbeats 4000000 in
theorem before_x (x y : Key) (w : World) : Calls Try.prog 39 #[.agg #[.string x.1, .string x.2], .agg #[.string y.1, .string y.2]] w fun e w' => e = .returned (.int .i64 (cmpK x y)) ∧ ∃ q os', w' = grow (w.drewN q) os' := by
  obtain ⟨a, c⟩ := x
  obtain ⟨b, d⟩ := y
  dsimp only
  have h1 := fun w => nameCompare_x a b w
  have h2 := fun w => nameCompare_x c d w
  go_enter Try.func39, Try.ntmps39
  go_wp2
  refine wp_region_ord ((0, false) :: (1, false) :: (2, false) :: (3, false) :: (5, false) :: (6, false) :: (7, false) :: (8, false) :: (4, true) :: (9, true) :: (10, true) :: (11, true) :: (12, false) :: []) (fun w' => ((w'.cell? ⟨w.heap.size, 0, none⟩ = some (.string a) ∧ w'.cell? ⟨w.heap.size, 1, none⟩ = some (.string c)) ∧ (w'.cell? ⟨w.heap.size + 1, 0, none⟩ = some (.string b) ∧ w'.cell? ⟨w.heap.size + 1, 1, none⟩ = some (.string d)))) (by kernel_rfl) (by kernel_rfl) (by kernel_rfl) (by kernel_rfl) (fun _ _ d _ _ h => by cases d <;> exact h) ?_ (fun hHeld => ?_)
  · refine ⟨⟨?_, ?_⟩, ?_, ?_⟩ <;> go_simp
  iterate 8 (first | (refine wpOrd_skip (by simp only [List.getElem?_toArray, List.getElem?_cons_succ, List.getElem?_cons_zero]; rfl) (by rfl) ?_; (simp only [Act.put, List.setIfInBounds_toArray, List.set_cons_zero, List.set_cons_succ])) | (refine wpOrd_take (v := ?_) (by simp only [List.getElem?_toArray, List.getElem?_cons_succ, List.getElem?_cons_zero]; rfl) (by rfl) ?_ ?_; rotate_left; (· (intro w hSw; (try dsimp only at hSw); go_simp; try with_reducible rfl)); (simp only [Act.put, List.setIfInBounds_toArray, List.set_cons_zero, List.set_cons_succ])))
  refine wpOrd_alone (by simp only [List.getElem?_toArray, List.getElem?_cons_succ, List.getElem?_cons_zero]; rfl) (fun K hK => ?_)
  go_simp
  (go_at_call 53; refine (h1 _).mono ?_; rintro e w' ⟨rfl, rfl⟩)
  refine hK.out _ _ hHeld (fun hHeld => ?_)
  clear hK K
  refine wpOrd_alone (by simp only [List.getElem?_toArray, List.getElem?_cons_succ, List.getElem?_cons_zero]; rfl) (fun K hK => ?_)
  go_simp
  (go_at_call 53; refine (h2 _).mono ?_; rintro e w' ⟨rfl, rfl⟩)
  refine hK.out _ _ hHeld (fun hHeld => ?_)
  clear hK K
  refine wpOrd_alone (by simp only [List.getElem?_toArray, List.getElem?_cons_succ, List.getElem?_cons_zero]; rfl) (fun K hK => ?_)
  go_simp
  refine hK.out _ _ (by refine ⟨⟨?_, ?_⟩, ?_, ?_⟩ <;> go_simp) (fun hHeld => ?_)
  clear hK K
  refine wpOrd_alone (by simp only [List.getElem?_toArray, List.getElem?_cons_succ, List.getElem?_cons_zero]; rfl) (fun K hK => ?_)
  go_simp
  (go_at_call 52; refine (or_x (cmpS a b) (cmpS c d) (w.heap.size + 1 + 1) _ (by go_simp) (by go_simp)).mono ?_; rintro e w' ⟨rfl, rfl⟩)
  refine hK.out _ _ hHeld (fun hHeld => ?_)
  clear hK K
  iterate 1 (first | (refine wpOrd_skip (by simp only [List.getElem?_toArray, List.getElem?_cons_succ, List.getElem?_cons_zero]; rfl) (by rfl) ?_; (simp only [Act.put, List.setIfInBounds_toArray, List.set_cons_zero, List.set_cons_succ])) | (refine wpOrd_take (v := ?_) (by simp only [List.getElem?_toArray, List.getElem?_cons_succ, List.getElem?_cons_zero]; rfl) (by rfl) ?_ ?_; rotate_left; (· (intro w hSw; (try dsimp only at hSw); go_simp; try with_reducible rfl)); (simp only [Act.put, List.setIfInBounds_toArray, List.set_cons_zero, List.set_cons_succ])))
  refine wpOrd_done ?_
  go_wp2_with fail
  go_ret
  exact ⟨rfl, 1, #[.cells #[.string a, .string c] 24, .cells #[.string b, .string d] 24, .cells #[.int .i64 (cmpS a b), .int .i64 (cmpS c d)] 3], grow3 ..⟩
end Go.Proofs.Ytgbgedaedcofcaa
