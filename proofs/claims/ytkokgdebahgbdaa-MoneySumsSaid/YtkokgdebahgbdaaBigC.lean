/-
  The contract of the reference's greatest number: most, MulDiv, Share, Worth, Need.
-/
import Derived.Test.YtkokgdebahgbdaaBigB
import Derived.Test.YtkokgdebahgbdaaMoneyNeed
namespace Go.Proofs.Ytkokgdebahgbdaa
open Go.RowKit

theorem six_bg (n : Nat) : ∃ a0 a1 a2 a3 a4 a5, Bg.ofD 6 n = [a0, a1, a2, a3, a4, a5] := six (Bg.ofD_length 6 n)

/-- two big numbers in blocks of the call's own -/
structure Two (g : Nat) (la lc : List Nat) (w0 w : World) : Prop where
  fst : BigB w g la
  snd : BigB w (g + 1) lc
  be : Below g w0 w

theorem Two.next {g : Nat} {la lc : List Nat} {w0 w w' : World} (h : Two g la lc w0 w) (hb : Below w.heap.size w w') (hg : g ≤ w.heap.size) : Two g la lc w0 w' :=
  ⟨Blk.below h.fst hb (Blk.lt h.fst), Blk.below h.snd hb (Blk.lt h.snd), h.be.trans (hb.mono hg)⟩
theorem Two.lt {g : Nat} {la lc : List Nat} {w0 w : World} (h : Two g la lc w0 w) : g ≤ w.heap.size := Nat.le_of_lt (Blk.lt h.fst)
theorem Two.drewN {g : Nat} {la lc : List Nat} {w0 w : World} (h : Two g la lc w0 w) (n : Nat) : Two g la lc w0 (w.drewN n) := ⟨Blk.drewN h.fst n, Blk.drewN h.snd n, below_drewN h.be n⟩

theorem Two.see {g : Nat} {la lc : List Nat} {w0 w : World} {a0 a1 a2 a3 a4 a5 c0 c1 c2 c3 c4 c5 : Nat} (h : Two g la lc w0 w) (ha : la = [a0, a1, a2, a3, a4, a5]) (hc : lc = [c0, c1, c2, c3, c4, c5]) :
    ((w.cell? ⟨g, 0, none⟩ = some (.int .i64 (a0 : Int)) ∧ w.cell? ⟨g, 1, none⟩ = some (.int .i64 (a1 : Int)) ∧ w.cell? ⟨g, 2, none⟩ = some (.int .i64 (a2 : Int))) ∧ (w.cell? ⟨g, 3, none⟩ = some (.int .i64 (a3 : Int)) ∧ w.cell? ⟨g, 4, none⟩ = some (.int .i64 (a4 : Int)) ∧ w.cell? ⟨g, 5, none⟩ = some (.int .i64 (a5 : Int)))) ∧ ((w.cell? ⟨(g + 1), 0, none⟩ = some (.int .i64 (c0 : Int)) ∧ w.cell? ⟨(g + 1), 1, none⟩ = some (.int .i64 (c1 : Int)) ∧ w.cell? ⟨(g + 1), 2, none⟩ = some (.int .i64 (c2 : Int))) ∧ (w.cell? ⟨(g + 1), 3, none⟩ = some (.int .i64 (c3 : Int)) ∧ w.cell? ⟨(g + 1), 4, none⟩ = some (.int .i64 (c4 : Int)) ∧ w.cell? ⟨(g + 1), 5, none⟩ = some (.int .i64 (c5 : Int)))) := by
  subst ha hc
  exact ⟨h.fst.all, h.snd.all⟩

theorem cmp_le {n m : Nat} : decide (cmpI n m ≤ 0) = decide (n ≤ m) := by
  unfold cmpI
  rcases Nat.lt_trichotomy n m with h | h | h
  · rw [if_pos h]; simp; omega
  · rw [if_neg (by omega), if_neg (by omega)]; simp; omega
  · rw [if_neg (by omega), if_pos h]; simp; omega

set_option maxHeartbeats 2000000 in
theorem most_big (N C bound : Nat) (hN : N < 1073741824 ^ 6) (hC0 : 1 ≤ C) (hC : C ≤ 9223372036854775808) (hbd : bound ≤ 1152921504606846977) (w : World) :
    Calls Try.prog 50 #[bg N, bg C, .int .i64 (bound : Int)] w fun e w' => e = .returned (.int .i64 ((min bound (N / C) : Nat) : Int)) ∧ Below w.heap.size w w' := by
  obtain ⟨a0, a1, a2, a3, a4, a5, ha⟩ := six_bg N
  obtain ⟨c0, c1, c2, c3, c4, c5, hc⟩ := six_bg C
  have hbc : Value.agg #[.int .i64 (c0 : Int), .int .i64 (c1 : Int), .int .i64 (c2 : Int), .int .i64 (c3 : Int), .int .i64 (c4 : Int), .int .i64 (c5 : Int)] = bg C := by unfold bg bigV; rw [hc]; rfl
  have hba : Value.agg #[.int .i64 (a0 : Int), .int .i64 (a1 : Int), .int .i64 (a2 : Int), .int .i64 (a3 : Int), .int .i64 (a4 : Int), .int .i64 (a5 : Int)] = bg N := by unfold bg bigV; rw [ha]; rfl
  have HBC := Lib.hid hbc
  have HBA := Lib.hid hba
  have hA : BigB ((w.alloc (.cells (dV (Bg.ofD 6 N)) 54)).alloc (.cells (dV (Bg.ofD 6 C)) 54)) w.heap.size (Bg.ofD 6 N) := (Blk.new w _ _).alloc _
  have hB : BigB ((w.alloc (.cells (dV (Bg.ofD 6 N)) 54)).alloc (.cells (dV (Bg.ofD 6 C)) 54)) (w.heap.size + 1) (Bg.ofD 6 C) := by
    have := Blk.new (w.alloc (.cells (dV (Bg.ofD 6 N)) 54)) 54 (dV (Bg.ofD 6 C))
    have e : (w.alloc (.cells (dV (Bg.ofD 6 N)) 54)).heap.size = w.heap.size + 1 := by simp
    rw [e] at this
    exact this
  have hbw : Below w.heap.size w ((w.alloc (.cells (dV (Bg.ofD 6 N)) 54)).alloc (.cells (dV (Bg.ofD 6 C)) 54)) := ((Below.refl _ _).alloc (Nat.le_refl _) _).alloc (by simp) _
  have HT : Hid (Two w.heap.size (Bg.ofD 6 N) (Bg.ofD 6 C) w ((w.alloc (.cells (dV (Bg.ofD 6 N)) 54)).alloc (.cells (dV (Bg.ofD 6 C)) 54))) := Lib.hid ⟨hA, hB, hbw⟩
  clear hbc hba hA hB hbw
  have HAL := Lib.hid ha
  have HCL := Lib.hid hc
  have HN := Lib.hid hN
  obtain ⟨M, hM⟩ : ∃ M, min bound (N / C) = M := ⟨_, rfl⟩
  have HM := Lib.hid hM
  have hM1 : M ≤ bound := by omega
  clear ha hc hN hM
  rw [HM.out]
  unfold bg bigV
  go_enter Try.func50, Try.ntmps50
  go_wp2_with fail
  generalize (w.alloc (.cells (dV (Bg.ofD 6 N)) 54)).alloc (.cells (dV (Bg.ofD 6 C)) 54) = w1 at *
  go_loopw [7, 8, 9] (fun lv hv _ wr => ∃ lo hi : Nat, lo ≤ M ∧ M ≤ hi ∧ hi ≤ bound ∧ lv = .int .i64 lo ∧ hv = .int .i64 hi ∧ Two w.heap.size (Bg.ofD 6 N) (Bg.ofD 6 C) w wr) (fun lv hv _ _ => (intOf hv - intOf lv).toNat)
  case atStart => exact ⟨0, bound, by omega, hM1, Nat.le_refl _, rfl, rfl, HT.out⟩
  case round =>
    obtain ⟨lo, hi, hlo, hhi, hbo, rfl, rfl, htwo⟩ := hrel
    by_cases hlt : lo < hi
    · obtain ⟨mid, hmid⟩ : ∃ mid, lo + (hi - lo) / 2 + (hi - lo) % 2 = mid := ⟨_, rfl⟩
      have hm1 : lo < mid := by omega
      have hm2 : mid ≤ hi := by omega
      have hmi : (lo : Int) + ((hi : Int) - (lo : Int)) / 2 + ((hi : Int) - (lo : Int)) % 2 = (mid : Int) := by omega
      clear hmid
      have H2 := Lib.hid htwo
      clear htwo
      go_wp2_with fail
      have HLE : Hid (decide (mid * C ≤ N) = decide (mid ≤ M)) := Lib.hid (by
        have h1 := HM.out
        have h2 : mid * C ≤ N ↔ mid ≤ N / C := (Nat.le_div_iff_mul_le (by omega)).symm
        rw [decide_eq_decide, h2]
        omega)
      have HMC : Hid (mid * C < 1073741824 ^ 6) := Lib.hid (by
        have : mid * C ≤ 1152921504606846977 * 9223372036854775808 := Nat.mul_le_mul (by omega) hC
        omega)
      have HMB : Hid (mid < 1073741824 ^ 6 ∧ C < 1073741824 ^ 6) := Lib.hid (by omega)
      refine wp_region_ord ((0, false) :: (2, false) :: (4, false) :: (1, true) :: (3, true) :: (5, true) :: (6, false) :: []) (fun w' => (((w'.cell? ⟨w.heap.size, 0, none⟩ = some (.int .i64 (a0 : Int)) ∧ w'.cell? ⟨w.heap.size, 1, none⟩ = some (.int .i64 (a1 : Int)) ∧ w'.cell? ⟨w.heap.size, 2, none⟩ = some (.int .i64 (a2 : Int))) ∧ (w'.cell? ⟨w.heap.size, 3, none⟩ = some (.int .i64 (a3 : Int)) ∧ w'.cell? ⟨w.heap.size, 4, none⟩ = some (.int .i64 (a4 : Int)) ∧ w'.cell? ⟨w.heap.size, 5, none⟩ = some (.int .i64 (a5 : Int)))) ∧ ((w'.cell? ⟨w.heap.size + 1, 0, none⟩ = some (.int .i64 (c0 : Int)) ∧ w'.cell? ⟨w.heap.size + 1, 1, none⟩ = some (.int .i64 (c1 : Int)) ∧ w'.cell? ⟨w.heap.size + 1, 2, none⟩ = some (.int .i64 (c2 : Int))) ∧ (w'.cell? ⟨w.heap.size + 1, 3, none⟩ = some (.int .i64 (c3 : Int)) ∧ w'.cell? ⟨w.heap.size + 1, 4, none⟩ = some (.int .i64 (c4 : Int)) ∧ w'.cell? ⟨w.heap.size + 1, 5, none⟩ = some (.int .i64 (c5 : Int))))) ∧ Two w.heap.size (Bg.ofD 6 N) (Bg.ofD 6 C) w w') (by kernel_rfl) (by kernel_rfl) (by kernel_rfl) (by kernel_rfl) (fun _ _ d _ _ h => by cases d <;> exact h) ?_ (fun hHeld => ?_)
      · exact ⟨(H2.out.drewN 1).see HAL.out HCL.out, H2.out.drewN 1⟩
      iterate 3 (first | (refine wpOrd_skip (by simp only [List.getElem?_toArray, List.getElem?_cons_succ, List.getElem?_cons_zero]; rfl) (by rfl) ?_; (simp only [Act.put, List.setIfInBounds_toArray, List.set_cons_zero, List.set_cons_succ])) | (refine wpOrd_take (v := ?_) (by simp only [List.getElem?_toArray, List.getElem?_cons_succ, List.getElem?_cons_zero]; rfl) (by rfl) ?_ ?_; rotate_left; (· (intro w hSw; (try dsimp only at hSw); go_simp; try with_reducible rfl)); (simp only [Act.put, List.setIfInBounds_toArray, List.set_cons_zero, List.set_cons_succ])))
      refine wpOrd_alone (by simp only [List.getElem?_toArray, List.getElem?_cons_succ, List.getElem?_cons_zero]; rfl) (fun K hK => ?_)
      go_simp
      (go_at_call 39; refine (of_any mid (by omega) _).mono ?_; rintro e w' ⟨rfl, hb⟩)
      have ht := hHeld.2.next hb hHeld.2.lt
      refine hK.out _ _ ⟨ht.see HAL.out HCL.out, ht⟩ (fun hHeld => ?_)
      clear hK K ht hb
      refine wpOrd_alone (by simp only [List.getElem?_toArray, List.getElem?_cons_succ, List.getElem?_cons_zero]; rfl) (fun K hK => ?_)
      go_simp
      rw [HBC.out]
      (go_at_call 44; refine (mulB_any mid C HMB.out.1 HMB.out.2 HMC.out _).mono ?_; rintro e w' ⟨rfl, hb⟩)
      have ht := hHeld.2.next hb hHeld.2.lt
      refine hK.out _ _ ⟨ht.see HAL.out HCL.out, ht⟩ (fun hHeld => ?_)
      clear hK K ht hb
      refine wpOrd_alone (by simp only [List.getElem?_toArray, List.getElem?_cons_succ, List.getElem?_cons_zero]; rfl) (fun K hK => ?_)
      go_simp
      rw [HBA.out]
      (go_at_call 38; refine (cmp_any (mid * C) N HMC.out HN.out _).mono ?_; rintro e w' ⟨rfl, hb⟩)
      have ht := hHeld.2.next hb hHeld.2.lt
      refine hK.out _ _ ⟨ht.see HAL.out HCL.out, ht⟩ (fun hHeld => ?_)
      clear hK K ht hb
      iterate 1 (first | (refine wpOrd_skip (by simp only [List.getElem?_toArray, List.getElem?_cons_succ, List.getElem?_cons_zero]; rfl) (by rfl) ?_; (simp only [Act.put, List.setIfInBounds_toArray, List.set_cons_zero, List.set_cons_succ])) | (refine wpOrd_take (v := ?_) (by simp only [List.getElem?_toArray, List.getElem?_cons_succ, List.getElem?_cons_zero]; rfl) (by rfl) ?_ ?_; rotate_left; (· (intro w hSw; (try dsimp only at hSw); go_simp; try with_reducible rfl)); (simp only [Act.put, List.setIfInBounds_toArray, List.set_cons_zero, List.set_cons_succ])))
      refine wpOrd_done ?_
      have HT2 := Lib.hid hHeld.2
      clear hHeld
      have hcm : decide (cmpI (mid * C) N ≤ 0) = decide (mid ≤ M) := by rw [cmp_le]; exact HLE.out
      by_cases hle : mid ≤ M
      · have hcq : (cmpI (mid * C) N ≤ 0) = True := by have := hcm; simp only [hle, decide_true, decide_eq_true_eq] at this; exact eq_true this
        have HQ := Lib.hid hcq
        rw [decide_eq_true hle] at hcm
        rw [hcm]
        clear hcm hcq
        go_wp2_with fail
        refine ⟨?rel, ?measure⟩
        case rel => exact ⟨mid, hi, hle, hhi, hbo, rfl, rfl, HT2.out⟩
        case measure => simp [intOf]; omega
      · rw [decide_eq_false hle] at hcm
        rw [hcm]
        clear hcm
        go_wp2_with fail
        refine ⟨?rel, ?measure⟩
        case rel => exact ⟨lo, mid - 1, hlo, by omega, by omega, rfl, by go_num, HT2.out⟩
        case measure => simp [intOf]; omega
    · obtain rfl : lo = M := by omega
      go_wp2_with fail
      go_ret
      exact ⟨rfl, htwo.be⟩
end Go.Proofs.Ytkokgdebahgbdaa
