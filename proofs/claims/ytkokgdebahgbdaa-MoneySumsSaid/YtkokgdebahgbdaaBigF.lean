/-
  Contracts of the reference's magnitude, end and Product.
-/
import Derived.Test.YtkokgdebahgbdaaBigB
import Derived.Test.YtkokgdebahgbdaaMoneyAdd
namespace Go.Proofs.Ytkokgdebahgbdaa
open Go.RowKit

/-- a big number, written out -/
theorem bg_six (n : Nat) : ∃ a0 a1 a2 a3 a4 a5 : Nat, bg n = .agg #[.int .i64 (a0 : Int), .int .i64 (a1 : Int), .int .i64 (a2 : Int), .int .i64 (a3 : Int), .int .i64 (a4 : Int), .int .i64 (a5 : Int)] ∧ Bg.ofD 6 n = [a0, a1, a2, a3, a4, a5] := by
  obtain ⟨a0, a1, a2, a3, a4, a5, h⟩ := six (Bg.ofD_length 6 n)
  exact ⟨a0, a1, a2, a3, a4, a5, by unfold bg bigV; rw [h]; rfl, h⟩
theorem of_bg (v : Nat) (hv : v ≤ 9223372036854775807) (w : World) : Calls Try.prog 39 #[.int .i64 (v : Int)] w fun e w' => e = .returned (bg v) ∧ Below w.heap.size w w' := of_any v hv w
theorem add_bg (n m : Nat) (hs : n + m < 1073741824 ^ 6) (w : World) : Calls Try.prog 37 #[bg n, bg m] w fun e w' => e = .returned (bg (n + m)) ∧ Below w.heap.size w w' := addB_any n m hs w
theorem mul_bg (n m : Nat) (hn : n < 1073741824 ^ 6) (hm : m < 1073741824 ^ 6) (hs : n * m < 1073741824 ^ 6) (w : World) : Calls Try.prog 44 #[bg n, bg m] w fun e w' => e = .returned (bg (n * m)) ∧ Below w.heap.size w w' := mulB_any n m hn hm hs w

def MagN (w : World) (v : Int) (e : Ending) (w' : World) : Prop := e = .returned (.tuple #[bg v.natAbs, .bool (decide (v < 0))]) ∧ Below w.heap.size w w'

/-- six cells of a block of the call's own, to be stored into -/
theorem zero_big (w : World) : BigB (w.alloc (.cells #[.int .i64 0, .int .i64 0, .int .i64 0, .int .i64 0, .int .i64 0, .int .i64 0] 54)) w.heap.size [0, 0, 0, 0, 0, 0] := Blk.new w _ _

set_option maxHeartbeats 1000000 in
theorem magn_mid (v : Int) (hv : IsI64 v) (h : v ≠ -9223372036854775808) (w : World) : Calls Try.prog 36 #[.int .i64 v] w (MagN w v) := by
  have hq : (v == -9223372036854775808) = false := by simpa using h
  obtain ⟨h1, h2⟩ := hv
  have h3 : -9223372036854775807 ≤ v := by omega
  clear h
  have HZ := Lib.hid (zero_big w)
  obtain ⟨m, hm⟩ : ∃ m, v.natAbs = m := ⟨_, rfl⟩
  obtain ⟨a0, a1, a2, a3, a4, a5, ha, _⟩ := bg_six m
  have HM := Lib.hid hm
  have HA := Lib.hid ha
  have hmb : m ≤ 9223372036854775807 := by omega
  by_cases hn : v < 0
  all_goals
    have hmv : (if v < 0 then -v else v) = (m : Int) := by split <;> omega
    first | rw [if_pos hn] at hmv | rw [if_neg hn] at hmv
    have HMV := Lib.hid hmv
    have HOF := Lib.hid (of_bg m hmb)
    clear hm ha hmv
    go_enter Try.func36, Try.ntmps36
    go_wp2_with fail
    rw [HMV.out]
    refine (HOF.out _).mono ?_
    rintro en w1 ⟨rfl, hb1⟩
    rw [HA.out]
    have h0 := Blk.below HZ.out hb1 (Blk.lt HZ.out)
    have H0 := Lib.hid h0
    obtain ⟨⟨d0, d1, d2⟩, d3, d4, d5⟩ := BigB.all h0
    obtain ⟨⟨f0, f1, f2⟩, f3, f4, f5⟩ := BigB.free h0
    have HB := Lib.hid (((Below.refl w.heap.size w).alloc (Nat.le_refl _) _).trans (hb1.mono (by simp)))
    clear h0 hb1
    go_wp2_with fail
    show bodyPost _ _ _ _ _ (put6 w1 w.heap.size a0 a1 a2 a3 a4 a5)
    have hB := put6_big H0.out rfl a0 a1 a2 a3 a4 a5
    have hbf := put6_below HB.out (Nat.le_refl _) a0 a1 a2 a3 a4 a5
    generalize put6 w1 w.heap.size a0 a1 a2 a3 a4 a5 = wf at *
    clear d0 d1 d2 d3 d4 d5 f0 f1 f2 f3 f4 f5
    obtain ⟨⟨e0, e1, e2⟩, e3, e4, e5⟩ := hB.all
    refine bodyPost_ret (v := .tuple #[.agg #[.int .i64 (a0 : Int), .int .i64 (a1 : Int), .int .i64 (a2 : Int), .int .i64 (a3 : Int), .int .i64 (a4 : Int), .int .i64 (a5 : Int)], .bool (decide (v < 0))]) (by simp [results, Try.results36, go_sem, hn, e0, e1, e2, e3, e4, e5]) rfl ⟨?_, hbf⟩
    rw [HM.out, HA.out]

set_option maxHeartbeats 1000000 in
theorem magn_low (w : World) : Calls Try.prog 36 #[.int .i64 (-9223372036854775808)] w (MagN w (-9223372036854775808)) := by
  have hof := of_bg 4611686018427387904 (by decide)
  have hlit : ((4611686018427387904 : Nat) : Int) = 4611686018427387904 := rfl
  rw [hlit] at hof
  have HOF := Lib.hid hof
  have HZ := Lib.hid (zero_big w)
  obtain ⟨a0, a1, a2, a3, a4, a5, ha, hal⟩ := bg_six 4611686018427387904
  obtain ⟨c0, c1, c2, c3, c4, c5, hc, _⟩ := bg_six 9223372036854775808
  have HA := Lib.hid ha
  have HC := Lib.hid hc
  have had := add_bg 4611686018427387904 4611686018427387904 (by decide)
  rw [show (4611686018427387904 + 4611686018427387904 : Nat) = 9223372036854775808 from rfl] at had
  have HAD := Lib.hid had
  clear had
  have hfin : MagN w (-9223372036854775808) = fun e w' => e = .returned (.tuple #[bg 9223372036854775808, .bool true]) ∧ Below w.heap.size w w' := rfl
  rw [hfin]
  clear hof hlit ha hc hal hfin
  go_enter Try.func36, Try.ntmps36
  go_wp2_with fail
  refine (HOF.out _).mono ?_
  rintro en w1 ⟨rfl, hb1⟩
  rw [HA.out]
  have h0 := Blk.below HZ.out hb1 (Blk.lt HZ.out)
  have H0 := Lib.hid h0
  have HB := Lib.hid (((Below.refl w.heap.size w).alloc (Nat.le_refl _) _).trans (hb1.mono (by simp)))
  have hlt1 : w.heap.size < w1.heap.size := by have := hb1.size; simp at this; omega
  clear h0 hb1
  go_wp2_with fail
  rw [← HA.out]
  refine (HAD.out _).mono ?_
  rintro en w2 ⟨rfl, hb2⟩
  rw [HC.out]
  have h2 := Blk.below (Blk.alloc H0.out (.cells #[.int .i64 (a0 : Int), .int .i64 (a1 : Int), .int .i64 (a2 : Int), .int .i64 (a3 : Int), .int .i64 (a4 : Int), .int .i64 (a5 : Int)] 54)) hb2 (by simp; omega)
  have H2 := Lib.hid h2
  obtain ⟨⟨d0, d1, d2⟩, d3, d4, d5⟩ := BigB.all h2
  obtain ⟨⟨f0, f1, f2⟩, f3, f4, f5⟩ := BigB.free h2
  have HB2 := Lib.hid ((HB.out.alloc (Nat.le_of_lt hlt1) (.cells #[.int .i64 (a0 : Int), .int .i64 (a1 : Int), .int .i64 (a2 : Int), .int .i64 (a3 : Int), .int .i64 (a4 : Int), .int .i64 (a5 : Int)] 54)).trans (hb2.mono (by simp; omega)))
  clear h2 hb2
  go_wp2_with fail
  show bodyPost _ _ _ _ _ (put6 w2 w.heap.size c0 c1 c2 c3 c4 c5)
  have hB := put6_big H2.out rfl c0 c1 c2 c3 c4 c5
  have hbf := put6_below HB2.out (Nat.le_refl _) c0 c1 c2 c3 c4 c5
  generalize put6 w2 w.heap.size c0 c1 c2 c3 c4 c5 = wf at *
  clear d0 d1 d2 d3 d4 d5 f0 f1 f2 f3 f4 f5
  obtain ⟨⟨e0, e1, e2⟩, e3, e4, e5⟩ := BigB.all hB
  refine bodyPost_ret (v := .tuple #[.agg #[.int .i64 (c0 : Int), .int .i64 (c1 : Int), .int .i64 (c2 : Int), .int .i64 (c3 : Int), .int .i64 (c4 : Int), .int .i64 (c5 : Int)], .bool true]) (by simp [results, Try.results36, go_sem, e0, e1, e2, e3, e4, e5]) rfl ⟨?_, hbf⟩
  rw [HC.out]
theorem magn_any (v : Int) (hv : IsI64 v) (w : World) : Calls Try.prog 36 #[.int .i64 v] w (MagN w v) := by
  by_cases h : v = -9223372036854775808
  · subst h
    exact magn_low w
  · exact magn_mid v hv h w

set_option maxHeartbeats 1000000 in
theorem end_any (b : Nat) (o minus : Bool) (w : World) (h : Blk w b 28 #[.bool o]) :
    Calls Try.prog 40 #[.pointer (some ⟨b, 0, none⟩), .bool minus] w fun e w' => e = .returned (.int .i64 (if minus then -1152921504606846976 else 1152921504606846976)) ∧ w.setCell ⟨b, 0, none⟩ (.bool true) = w' := by
  have hc := h.cell 0
  have hf := h.frozen 0
  cases minus <;>
  · go_enter Try.func40, Try.ntmps40
    go_wp2_with fail
    go_ret
    exact ⟨rfl, rfl⟩
end Go.Proofs.Ytkokgdebahgbdaa
