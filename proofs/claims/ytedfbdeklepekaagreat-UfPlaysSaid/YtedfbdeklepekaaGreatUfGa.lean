/-
  complinelaw17.alive answers true.
-/
import Derived.Test.YtedfbdeklepekaaGreatUfG
namespace Go.Proofs.YtedfbdeklepekaaGreat
open Go.RowKit
set_option maxHeartbeats 1000000 in
theorem alive_any (w : World) : Calls Tryz.prog 6 #[] w fun e w' => e = .returned (.bool true) ∧ Below w.heap.size w w' := by
  go_enter Tryz.func6, Tryz.ntmps6
  go_wp2_with fail
  refine (new_in 5 (by decide) w).mono ?_
  rintro en w1 ⟨rfl, g, A, c, hu, hb, hg⟩
  have HU := Lib.hid hu
  have HB := Lib.hid hb
  have HG := Lib.hid hg
  clear hu hb hg
  generalize hb0 : w.heap.size = b at *
  have HB0 := Lib.hid hb0
  clear hb0
  go_wp2_with fail
  refine (join_new b g (Uf.fresh 5) [1, 2, 3, 2, 5] A c 4 [4, 2] 2 1 w1 _ HU.out (Uf.fresh_good 5) (by decide) rfl rfl (by intro x hx; simp at hx; rcases hx with rfl | rfl <;> decide) rfl (by omega) (by rfl) (by rfl)).mono ?_
  rintro en w2 ⟨rfl, hu2, hk2⟩
  have HU2 := Lib.hid hu2
  have HK2 := Lib.hid hk2
  clear hu2 hk2
  go_wp2_with fail
  refine (join_new b g [1, 2, 3, 2, 5] [1, 2, 3, 2, 2] A c 5 [5, 4, 2] 3 1 w2 _ HU2.out (by intro i h1 h2; simp at h2; match i, h1, h2 with | 1, _, _ => decide | 2, _, _ => decide | 3, _, _ => decide | 4, _, _ => decide | 5, _, _ => decide) (by decide) rfl rfl (by intro x hx; simp at hx; rcases hx with rfl | rfl | rfl <;> decide) rfl (by omega) (by rfl) (by rfl)).mono ?_
  rintro en w3 ⟨rfl, hu3, hk3⟩
  have hgd : Uf.Good [1, 2, 3, 2, 2] := by intro i h1 h2; simp at h2; match i, h1, h2 with | 1, _, _ => decide | 2, _, _ => decide | 3, _, _ => decide | 4, _, _ => decide | 5, _, _ => decide
  have HGD := Lib.hid hgd
  have HU3 := Lib.hid hu3
  have HK3 := Lib.hid hk3
  clear hu3 hk3 hgd
  go_wp2_with fail
  refine (classes_in b A c _ w3 HU3.out.rd HU3.out.lt.1 HGD.out (by decide)).mono ?_
  have hcl : Uf.classes [1, 2, 3, 2, 2] = [[1], [2, 4, 5], [3]] := by rfl
  rw [hcl]
  clear hcl
  rintro en w4 ⟨L, cap, rfl, ⟨vs, hrs, _, hrows⟩, hb4⟩
  have HB4 := Lib.hid hb4
  obtain ⟨A1, c1, hv1, _, _, _, _⟩ := hrows 1 [2, 4, 5] rfl
  obtain ⟨ad, x, e1, _, hx, hc⟩ := hrs.at_ (k := 1) (by decide)
  rw [hv1] at hx
  injection hx with hx
  subst hx
  subst e1
  have HU4 := Lib.hid (HU3.out.below hb4)
  replace hc : w4.cell? ⟨ad.block, ad.off + 1, none⟩ = some (.slice A1 3 c1) := hc
  clear hb4 hrs hrows hv1
  go_wp2_with fail
  refine (head_any b A c _ _ _ HU4.out.rd HGD.out (by decide)).mono ?_
  have hh : headI [1, 2, 3, 2, 2] 5 = 2 := by rfl
  rw [hh]
  clear hh
  rintro en w5 ⟨rfl, rfl⟩
  go_wp2_with fail
  refine (same_new b g _ A c [2, 4, 5] 3 true w4 _ HU4.out HGD.out (by decide) rfl rfl (by omega) (by rfl)).mono ?_
  rintro en w5 ⟨rfl, hu5, hb5⟩
  have HU5 := Lib.hid hu5
  have HB5 := Lib.hid hb5
  clear hu5 hb5
  go_wp2_with fail
  refine (same_new b g _ A c [1, 2] 2 false w5 _ HU5.out HGD.out (by decide) rfl rfl (by omega) (by rfl)).mono ?_
  rintro en w6 ⟨rfl, hu6, hb6⟩
  have HB6 := Lib.hid hb6
  clear hu6 hb6
  go_wp2_with fail
  go_ret
  refine ⟨rfl, ?_⟩
  have k1 : Below b w w1 := HB.out
  have s0 := HB0.out
  have a1 : Keeps [b, g] w w2 := ((Keeps.of_below (by rw [s0]; exact k1) [b, g]).alloc _).trans HK2.out (by simp)
  have a2 : Keeps [b, g] w w3 := (a1.alloc _).trans HK3.out (by simp)
  have a3 := (a2.trans (Keeps.of_below HB4.out []) (by simp))
  have a4 := (a3.trans (Keeps.of_below HB5.out []) (by simp))
  have a5 := (a4.trans (Keeps.of_below HB6.out []) (by simp))
  have := HG.out
  exact a5.below (by intro x hx; simp at hx; omega) (by omega)
end Go.Proofs.YtedfbdeklepekaaGreat
