/-
  The statements' first call 'alive' returns true, whatever the world; nothing that was there has turned.
-/
import Derived.Test.YtnlgmhglekakeaaLifeE
namespace Go.Proofs.Ytnlgmhglekakeaa
open Go.RowKit

theorem alive_any (w : World) : Calls Try.prog 11 #[] w fun e w' => e = .returned (.bool true) ∧ Below w.heap.size w w' := by
  go_enter Try.func11, Try.ntmps11
  go_wp2_with fail
  refine (next_any 1 1 w).mono ?_
  rintro en w1 ⟨rfl, hb1⟩
  rw [show nextF 1 1 = (2, true) from by decide]
  go_wp2_with fail
  refine (new_any w1).mono ?_
  rintro en w2 ⟨rfl, hw2⟩
  have hB := hw2 ▸ Blk.new w1 38 #[.int .i64 0, .int .i64 0]
  have hb2 : Below w.heap.size w w2 := hw2 ▸ hb1.alloc hb1.size _
  have hz : w2.heap.size = w1.heap.size + 1 := by rw [← hw2]; simp
  have HB := Lib.hid hB
  have HZ := Lib.hid hz
  have hs1 := hb1.size
  clear hB hw2 hz
  go_wp2_with fail
  refine (do_any w1.heap.size 0 0 _ 5 5 (w2.heap.size + 1) [1, 0, 1, 2, 3] _ (HB.out.alloc _) ?_ (by simp) ?_ (by omega) (by omega)).mono ?_
  · have h := (Blk.new w2 3 #[.int .i64 1, .int .i64 0, .int .i64 1, .int .i64 2, .int .i64 3]).reads (n := 5) rfl
    simpa [ints] using h
  · have := HZ.out
    rintro _ ad ⟨⟩
    simp
    omega
  rintro en w3 ⟨rfl, hb3, hg3⟩
  rw [show doN 0 [1, 0, 1, 2, 3] = 3 from by decide]
  rw [show doS 0 [1, 0, 1, 2, 3] = 3 from by decide] at hb3
  have hw3 : Below w.heap.size w w3 := below_only (hb2.alloc hb2.size _) (by simp; have := hb2.size; omega) hg3 hs1
  clear hg3
  go_wp2_with fail
  refine (state_any w1.heap.size 3 _ w3 hb3).mono ?_
  rintro en w4 ⟨rfl, rfl⟩
  go_wp2_with fail
  refine (name_any 1 w3).mono ?_
  rintro en w5 ⟨rfl, hb5⟩
  have hn : nameF 1 = ⟨#[109, 97, 116, 99, 104, 101, 100]⟩ := by rfl
  rw [hn]
  clear hn
  go_wp2_with fail
  go_ret
  exact ⟨rfl, hw3.trans (hb5.mono hw3.size)⟩
end Go.Proofs.Ytnlgmhglekakeaa
