/-
  The contract of the reference's Sum.
-/
import Derived.Test.YtkokgdebahgbdaaBigG
import Derived.Test.YtkokgdebahgbdaaBigC
namespace Go.Proofs.Ytkokgdebahgbdaa
open Go.RowKit

theorem bg_inj {n a0 a1 a2 a3 a4 a5 : Nat} (h : bg n = .agg #[.int .i64 (a0 : Int), .int .i64 (a1 : Int), .int .i64 (a2 : Int), .int .i64 (a3 : Int), .int .i64 (a4 : Int), .int .i64 (a5 : Int)]) : Bg.ofD 6 n = [a0, a1, a2, a3, a4, a5] := by
  obtain ⟨b0, b1, b2, b3, b4, b5, hb⟩ := six (Bg.ofD_length 6 n)
  unfold bg bigV at h
  rw [hb] at h
  simp [dV] at h
  rw [hb]
  obtain ⟨h0, h1, h2, h3, h4, h5⟩ := h
  rw [show b0 = a0 by omega, show b1 = a1 by omega, show b2 = a2 by omega, show b3 = a3 by omega, show b4 = a4 by omega, show b5 = a5 by omega]
theorem put6_far {w : World} {g g' : Nat} {l : List Nat} (h : BigB w g l) (hg : g ≠ g') (a0 a1 a2 a3 a4 a5 : Nat) : BigB (put6 w g' a0 a1 a2 a3 a4 a5) g l :=
  Blk.far (Blk.far (Blk.far (Blk.far (Blk.far (Blk.far h hg _) hg _) hg _) hg _) hg _) hg _
theorem put6_keeps {T : List Nat} {w w' : World} (h : Keeps T w w') {g : Nat} (hg : w.heap.size ≤ g) (a0 a1 a2 a3 a4 a5 : Nat) : Keeps T w (put6 w' g a0 a1 a2 a3 a4 a5) :=
  (((((h.setCell (.inr hg) _).setCell (.inr hg) _).setCell (.inr hg) _).setCell (.inr hg) _).setCell (.inr hg) _).setCell (.inr hg) _
theorem put6_size {w : World} {n : Nat} (h : n ≤ w.heap.size) {g : Nat} (a0 a1 a2 a3 a4 a5 : Nat) : n ≤ (put6 w g a0 a1 a2 a3 a4 a5).heap.size := by
  simpa [put6, World.setCell] using h
theorem sumI_next {xs : List Int} {k : Nat} (hk : k < xs.length) : sumI (xs.take (k + 1)) = sumI (xs.take k) + xs.getD k 0 := by
  rw [List.take_succ_eq_append_getElem hk, sumI_append, List.getD_eq_getElem?_getD, List.getElem?_eq_getElem hk]
  simp [sumI]
theorem cmp_lt {n m : Nat} : decide (cmpI n m < 0) = decide (n < m) := by
  unfold cmpI
  rcases Nat.lt_trichotomy n m with h | h | h
  · rw [if_pos h]; simp; omega
  · rw [if_neg (by omega), if_neg (by omega)]; simp; omega
  · rw [if_neg (by omega), if_pos h]; simp; omega

set_option maxHeartbeats 8000000 in
set_option maxRecDepth 100000 in
theorem sum_any (b : Nat) (o : Bool) (A : Option Addr) (n c : Nat) (xs : List Int) (w : World) (h : Blk w b 28 #[.bool o]) (hr : Reads w w.heap.size 1 A n (ints xs)) (hx : ∀ x ∈ xs, IsI64 x) (hn : n ≤ 2000) :
    Calls Try.prog 16 #[.pointer (some ⟨b, 0, none⟩), .slice A n c] w (RefN w b (clampV (sumI xs)) (o || clampO (sumI xs))) := by
  have H := Lib.hid h
  have HLT := Lib.hid (Blk.lt h)
  have HR := Lib.hid hr
  have HX := Lib.hid hx
  have HLN := Lib.hid hr.int_len
  clear h hr hx
  have HZ1 := Lib.hid ((zero_big w).alloc (.cells #[.int .i64 0, .int .i64 0, .int .i64 0, .int .i64 0, .int .i64 0, .int .i64 0] 54))
  have hz2 := zero_big (w.alloc (.cells #[.int .i64 0, .int .i64 0, .int .i64 0, .int .i64 0, .int .i64 0, .int .i64 0] 54))
  have es : (w.alloc (.cells #[.int .i64 0, .int .i64 0, .int .i64 0, .int .i64 0, .int .i64 0, .int .i64 0] 54)).heap.size = w.heap.size + 1 := by simp
  rw [es] at hz2
  have HZ2 := Lib.hid hz2
  clear hz2 es
  go_enter Try.func16, Try.ntmps16
  go_wp2_with fail
  go_loopw [7, 8, 9] (fun iv _ _ wr => ∃ k U D : Nat, k ≤ n ∧ iv = .int .i64 k ∧ (U : Int) - (D : Int) = sumI (xs.take k) ∧ U + D ≤ k * 9223372036854775808 ∧ BigB wr w.heap.size (Bg.ofD 6 U) ∧ BigB wr (w.heap.size + 1) (Bg.ofD 6 D) ∧ Keeps [] w wr ∧ w.heap.size + 2 ≤ wr.heap.size) (fun iv _ _ _ => n - (intOf iv).toNat)
  case atStart => exact ⟨0, 0, 0, Nat.zero_le _, rfl, by simp [sumI], by omega, HZ1.out, HZ2.out, ((Keeps.refl _ _).alloc _).alloc _, by simp⟩
  case round =>
    obtain ⟨k, U, D, hk, rfl, hsum, hbd, hU, hD, hkp, hsz⟩ := hrel
    have HU := Lib.hid hU
    have HD := Lib.hid hD
    have HKP := Lib.hid hkp
    have HSZ := Lib.hid hsz
    have hkb : k * 9223372036854775808 ≤ 2000 * 9223372036854775808 := Nat.mul_le_mul_right _ (by omega)
    clear hU hD hkp hsz
    by_cases hlt : k < n
    · obtain ⟨ad, x, rfl, hadb, hxk, hc⟩ := (HR.out.keeps HKP.out (Nat.le_refl _) (by simp)).int hlt
      have hxi : IsI64 x := HX.out x (List.mem_of_getElem? hxk)
      have hxe : xs.getD k 0 = x := by rw [List.getD_eq_getElem?_getD, hxk]; rfl
      have hnx := sumI_next (xs := xs) (k := k) (by rw [HLN.out]; exact hlt)
      rw [hxe, ← hsum] at hnx
      have HSUM := Lib.hid hnx
      have hab : x.natAbs ≤ 9223372036854775808 := by unfold IsI64 at hxi; omega
      have HMG := Lib.hid (magn_any x hxi wr)
      obtain ⟨m, hm⟩ : ∃ m, x.natAbs = m := ⟨_, rfl⟩
      obtain ⟨m0, m1, m2, m3, m4, m5, hmm, _⟩ := bg_six m
      obtain ⟨u0, u1, u2, u3, u4, u5, huu, hul⟩ := bg_six U
      obtain ⟨d0, d1, d2, d3, d4, d5, hdd, hdl⟩ := bg_six D
      have HMS := Lib.hid hmm
      have HUS := Lib.hid huu
      have HDS := Lib.hid hdd
      have HUL := Lib.hid hul
      have HDL := Lib.hid hdl
      have hmg := HMG.out
      unfold MagN at hmg
      rw [hm] at hmg
      have HMG2 := Lib.hid hmg
      have hmb : m ≤ 9223372036854775808 := by omega
      have hsgn : (0 ≤ x ∧ x = (m : Int)) ∨ (x < 0 ∧ x = -(m : Int)) := by omega
      have hk1b : (k + 1) * 9223372036854775808 = k * 9223372036854775808 + 9223372036854775808 := by omega
      have HBD := Lib.hid hbd
      have HKB := Lib.hid hkb
      have HMB := Lib.hid hmb
      have HK1B := Lib.hid hk1b
      have HSG := Lib.hid hsgn
      clear hsum hbd hkb hmb hk1b hsgn hxi hxk hxe hnx hmm huu hdd hul hdl hmg hm HMG hab
      go_wp2_with fail
      refine HMG2.out.mono ?_
      rintro en w1 ⟨rfl, hb1⟩
      rw [HMS.out]
      have HU1 : Hid (BigB w1 w.heap.size (Bg.ofD 6 U)) := Lib.hid (Blk.below HU.out hb1 (Blk.lt HU.out))
      have HD1 : Hid (BigB w1 (w.heap.size + 1) (Bg.ofD 6 D)) := Lib.hid (Blk.below HD.out hb1 (Blk.lt HD.out))
      have HK1 := Lib.hid (HKP.out.trans (Keeps.of_below hb1 []) (by simp))
      have HSZ1 := Lib.hid (show w.heap.size + 2 ≤ w1.heap.size from Nat.le_trans HSZ.out hb1.size)
      have HUE1 : Hid (BigB w1 w.heap.size [u0, u1, u2, u3, u4, u5]) := Lib.hid (by have := HU1.out; rw [HUL.out] at this; exact this)
      have HDE1 : Hid (BigB w1 (w.heap.size + 1) [d0, d1, d2, d3, d4, d5]) := Lib.hid (by have := HD1.out; rw [HDL.out] at this; exact this)
      have hz1 : w.heap.size < w1.heap.size := by have := HSZ1.out; omega
      have hz2 : w.heap.size + 1 < w1.heap.size := by have := HSZ1.out; omega
      clear hb1 HMG2
      by_cases hx : x < 0
      · have hneg : x < 0 := hx
        have hdec : decide (x < 0) = true := by simp; omega
        rw [hdec]
        clear hdec hneg
        obtain ⟨s0, s1, s2, s3, s4, s5, hs, _⟩ := bg_six (D + m)
        have HS := Lib.hid hs
        have HADD := Lib.hid (add_bg D m (by have := HBD.out; have := HKB.out; have := HMB.out; omega))
        obtain ⟨⟨a0, a1, a2⟩, a3, a4, a5⟩ := BigB.all HDE1.out
        clear hs
        go_wp2_with fail
        rw [← HDS.out, ← HMS.out]
        refine (HADD.out _).mono ?_
        rintro en w2 ⟨rfl, hb2⟩
        rw [HS.out]
        have hw12 : w.heap.size + 2 ≤ w1.heap.size := HSZ1.out
        have hU2 : BigB w2 w.heap.size (Bg.ofD 6 U) := Blk.below (Blk.alloc HU1.out (.cells #[.int .i64 (m0 : Int), .int .i64 (m1 : Int), .int .i64 (m2 : Int), .int .i64 (m3 : Int), .int .i64 (m4 : Int), .int .i64 (m5 : Int)] 54)) hb2 (by simp; omega)
        have hD2 : BigB w2 (w.heap.size + 1) (Bg.ofD 6 D) := Blk.below (Blk.alloc HD1.out (.cells #[.int .i64 (m0 : Int), .int .i64 (m1 : Int), .int .i64 (m2 : Int), .int .i64 (m3 : Int), .int .i64 (m4 : Int), .int .i64 (m5 : Int)] 54)) hb2 (by simp; omega)
        have HK2 := Lib.hid ((HK1.out.alloc (.cells #[.int .i64 (m0 : Int), .int .i64 (m1 : Int), .int .i64 (m2 : Int), .int .i64 (m3 : Int), .int .i64 (m4 : Int), .int .i64 (m5 : Int)] 54)).trans (Keeps.of_below hb2 []) (by simp))
        have HZ2 := Lib.hid (show w.heap.size + 2 ≤ w2.heap.size from by have := hb2.size; simp at this; omega)
        have HU2 := Lib.hid hU2
        have HD2 := Lib.hid hD2
        have hD3 := hD2
        rw [HDL.out] at hD3
        have hz3 : w.heap.size + 1 < w2.heap.size := by have := HZ2.out; omega
        obtain ⟨⟨b0, b1, b2⟩, b3, b4, b5⟩ := BigB.all hD3
        obtain ⟨⟨f0, f1, f2⟩, f3, f4, f5⟩ := BigB.free hD3
        clear a0 a1 a2 a3 a4 a5 hU2 hD2 hD3 hb2 hw12
        go_wp2_with fail
        refine ⟨?rel, ?measure⟩
        case rel =>
          have hp := put6_big HD2.out (Bg.ofD_length 6 _) s0 s1 s2 s3 s4 s5
          have hsl : Bg.ofD 6 (D + m) = [s0, s1, s2, s3, s4, s5] := bg_inj HS.out
          rw [← hsl] at hp
          refine ⟨k + 1, U, D + m, by omega, by go_num, ?_, by have := HBD.out; have := HK1B.out; have := HMB.out; omega, ?_, ?_, ?_, ?_⟩
          · rw [HSUM.out]; have := HSG.out; omega
          · exact put6_far HU2.out (by omega) s0 s1 s2 s3 s4 s5
          · exact hp
          · exact put6_keeps HK2.out (by simp) s0 s1 s2 s3 s4 s5
          · exact put6_size HZ2.out s0 s1 s2 s3 s4 s5
        case measure => simp [intOf]; omega
      · have hneg : ¬ x < 0 := hx
        have hdec : decide (x < 0) = false := by simp; omega
        rw [hdec]
        clear hdec hneg
        obtain ⟨s0, s1, s2, s3, s4, s5, hs, _⟩ := bg_six (U + m)
        have HS := Lib.hid hs
        have HADD := Lib.hid (add_bg U m (by have := HBD.out; have := HKB.out; have := HMB.out; omega))
        obtain ⟨⟨a0, a1, a2⟩, a3, a4, a5⟩ := BigB.all HUE1.out
        clear hs
        go_wp2_with fail
        rw [← HUS.out, ← HMS.out]
        refine (HADD.out _).mono ?_
        rintro en w2 ⟨rfl, hb2⟩
        rw [HS.out]
        have hw12 : w.heap.size + 2 ≤ w1.heap.size := HSZ1.out
        have hU2 : BigB w2 w.heap.size (Bg.ofD 6 U) := Blk.below (Blk.alloc HU1.out (.cells #[.int .i64 (m0 : Int), .int .i64 (m1 : Int), .int .i64 (m2 : Int), .int .i64 (m3 : Int), .int .i64 (m4 : Int), .int .i64 (m5 : Int)] 54)) hb2 (by simp; omega)
        have hD2 : BigB w2 (w.heap.size + 1) (Bg.ofD 6 D) := Blk.below (Blk.alloc HD1.out (.cells #[.int .i64 (m0 : Int), .int .i64 (m1 : Int), .int .i64 (m2 : Int), .int .i64 (m3 : Int), .int .i64 (m4 : Int), .int .i64 (m5 : Int)] 54)) hb2 (by simp; omega)
        have HK2 := Lib.hid ((HK1.out.alloc (.cells #[.int .i64 (m0 : Int), .int .i64 (m1 : Int), .int .i64 (m2 : Int), .int .i64 (m3 : Int), .int .i64 (m4 : Int), .int .i64 (m5 : Int)] 54)).trans (Keeps.of_below hb2 []) (by simp))
        have HZ2 := Lib.hid (show w.heap.size + 2 ≤ w2.heap.size from by have := hb2.size; simp at this; omega)
        have HU2 := Lib.hid hU2
        have HD2 := Lib.hid hD2
        have hU3 := hU2
        rw [HUL.out] at hU3
        have hz3 : w.heap.size + 1 < w2.heap.size := by have := HZ2.out; omega
        obtain ⟨⟨b0, b1, b2⟩, b3, b4, b5⟩ := BigB.all hU3
        obtain ⟨⟨f0, f1, f2⟩, f3, f4, f5⟩ := BigB.free hU3
        clear a0 a1 a2 a3 a4 a5 hU2 hD2 hU3 hb2 hw12
        go_wp2_with fail
        refine ⟨?rel, ?measure⟩
        case rel =>
          have hp := put6_big HU2.out (Bg.ofD_length 6 _) s0 s1 s2 s3 s4 s5
          have hsl : Bg.ofD 6 (U + m) = [s0, s1, s2, s3, s4, s5] := bg_inj HS.out
          rw [← hsl] at hp
          refine ⟨k + 1, U + m, D, by omega, by go_num, ?_, by have := HBD.out; have := HK1B.out; have := HMB.out; omega, ?_, ?_, ?_, ?_⟩
          · rw [HSUM.out]; have := HSG.out; omega
          · exact hp
          · exact put6_far HD2.out (by omega) s0 s1 s2 s3 s4 s5
          · exact put6_keeps HK2.out (by simp) s0 s1 s2 s3 s4 s5
          · exact put6_size HZ2.out s0 s1 s2 s3 s4 s5
        case measure => simp [intOf]; omega
    · obtain rfl : k = n := by omega
      have hsf : (U : Int) - (D : Int) = sumI xs := by rw [hsum, List.take_of_length_le (by rw [HLN.out]; exact Nat.le_refl _)]
      have HSF := Lib.hid hsf
      have HBIG : Hid (U < 20000000000000000000000000000 ∧ D < 20000000000000000000000000000) := Lib.hid (by omega)
      have htw : Two w.heap.size (Bg.ofD 6 U) (Bg.ofD 6 D) w wr := ⟨HU.out, HD.out, HKP.out.below (by simp) (Nat.le_refl _)⟩
      have HTW := Lib.hid htw
      obtain ⟨u0, u1, u2, u3, u4, u5, huu, hul⟩ := bg_six U
      obtain ⟨d0, d1, d2, d3, d4, d5, hdd, hdl⟩ := bg_six D
      have HUS := Lib.hid huu
      have HDS := Lib.hid hdd
      have HUL := Lib.hid hul
      have HDL := Lib.hid hdl
      have HCU := Lib.hid (cmp_any U D (by have := HBIG.out; omega) (by have := HBIG.out; omega))
      clear hsf hsum hbd hkb hlt htw huu hdd hul hdl
      obtain ⟨⟨⟨a0, a1, a2⟩, a3, a4, a5⟩, ⟨b0, b1, b2⟩, b3, b4, b5⟩ := HTW.out.see HUL.out HDL.out
      go_wp2_with fail
      rw [← HUS.out, ← HDS.out]
      refine (HCU.out _).mono ?_
      rintro en w2 ⟨rfl, hb2⟩
      have HT2 := Lib.hid (HTW.out.next hb2 HTW.out.lt)
      clear hb2 a0 a1 a2 a3 a4 a5 b0 b1 b2 b3 b4 b5 HCU
      have hcm : decide (cmpI U D < 0) = decide (U < D) := cmp_lt
      generalize cmpI U D = cz at *
      obtain ⟨ov, hov⟩ : ∃ ov, decide (U < D) = ov := ⟨_, rfl⟩
      rw [hov] at hcm
      have HOV := Lib.hid hov
      clear hov
      cases ov
      · have hnn : ¬ U < D := by have := HOV.out; simpa using this
        go_wp2_with fail
        have htwo := HT2.out
        obtain ⟨W, hW⟩ : ∃ W : World, W = w2 := ⟨_, rfl⟩
        subst hW
        clear hcm
        have HTWO : Hid (Two w.heap.size (Bg.ofD 6 U) (Bg.ofD 6 D) w W) := Lib.hid htwo
        clear htwo
        have HSS : Hid (sumI xs = ((U : Int) - (D : Int))) := Lib.hid (by have := HSF.out; omega)
        have HXY : Hid (D ≤ U ∧ U < 20000000000000000000000000000) := Lib.hid (by have := HBIG.out; omega)
        have hof := of_bg 1152921504606846976 (by decide)
        rw [show ((1152921504606846976 : Nat) : Int) = 1152921504606846976 from rfl] at hof
        have HOF := Lib.hid hof
        have HAD := Lib.hid (add_bg D 1152921504606846976 (by have := HXY.out; omega))
        have HCM := Lib.hid (cmp_any (D + 1152921504606846976) U (by have := HXY.out; omega) (by have := HXY.out; omega))
        clear hof
        refine wp_region_ord ((0, false) :: (3, false) :: (1, true) :: (2, true) :: (4, true) :: (5, false) :: []) (fun w' => (((w'.cell? ⟨w.heap.size, 0, none⟩ = some (.int .i64 (u0 : Int)) ∧ w'.cell? ⟨w.heap.size, 1, none⟩ = some (.int .i64 (u1 : Int)) ∧ w'.cell? ⟨w.heap.size, 2, none⟩ = some (.int .i64 (u2 : Int))) ∧ (w'.cell? ⟨w.heap.size, 3, none⟩ = some (.int .i64 (u3 : Int)) ∧ w'.cell? ⟨w.heap.size, 4, none⟩ = some (.int .i64 (u4 : Int)) ∧ w'.cell? ⟨w.heap.size, 5, none⟩ = some (.int .i64 (u5 : Int)))) ∧ ((w'.cell? ⟨(w.heap.size + 1), 0, none⟩ = some (.int .i64 (d0 : Int)) ∧ w'.cell? ⟨(w.heap.size + 1), 1, none⟩ = some (.int .i64 (d1 : Int)) ∧ w'.cell? ⟨(w.heap.size + 1), 2, none⟩ = some (.int .i64 (d2 : Int))) ∧ (w'.cell? ⟨(w.heap.size + 1), 3, none⟩ = some (.int .i64 (d3 : Int)) ∧ w'.cell? ⟨(w.heap.size + 1), 4, none⟩ = some (.int .i64 (d4 : Int)) ∧ w'.cell? ⟨(w.heap.size + 1), 5, none⟩ = some (.int .i64 (d5 : Int))))) ∧ Two w.heap.size (Bg.ofD 6 U) (Bg.ofD 6 D) w w') (by kernel_rfl) (by kernel_rfl) (by kernel_rfl) (by kernel_rfl) (fun _ _ d _ _ h => by cases d <;> exact h) ?_ (fun hHeld => ?_)
        · exact ⟨(HTWO.out.drewN 1).see HUL.out HDL.out, HTWO.out.drewN 1⟩
        iterate 2 (first | (refine wpOrd_skip (by simp only [List.getElem?_toArray, List.getElem?_cons_succ, List.getElem?_cons_zero]; rfl) (by rfl) ?_; (simp only [Act.put, List.setIfInBounds_toArray, List.set_cons_zero, List.set_cons_succ])) | (refine wpOrd_take (v := ?_) (by simp only [List.getElem?_toArray, List.getElem?_cons_succ, List.getElem?_cons_zero]; rfl) (by rfl) ?_ ?_; rotate_left; (· (intro w hSw; (try dsimp only at hSw); go_simp; try with_reducible rfl)); (simp only [Act.put, List.setIfInBounds_toArray, List.set_cons_zero, List.set_cons_succ])))
        refine wpOrd_alone (by simp only [List.getElem?_toArray, List.getElem?_cons_succ, List.getElem?_cons_zero]; rfl) (fun K hK => ?_)
        go_simp
        (go_at_call 39; refine (HOF.out _).mono ?_; rintro e w' ⟨rfl, hb⟩)
        have ht := hHeld.2.next hb hHeld.2.lt
        refine hK.out _ _ ⟨ht.see HUL.out HDL.out, ht⟩ (fun hHeld => ?_)
        clear hK K ht hb
        refine wpOrd_alone (by simp only [List.getElem?_toArray, List.getElem?_cons_succ, List.getElem?_cons_zero]; rfl) (fun K hK => ?_)
        go_simp
        rw [← HDS.out]
        (go_at_call 37; refine (HAD.out _).mono ?_; rintro e w' ⟨rfl, hb⟩)
        have ht := hHeld.2.next hb hHeld.2.lt
        refine hK.out _ _ ⟨ht.see HUL.out HDL.out, ht⟩ (fun hHeld => ?_)
        clear hK K ht hb
        refine wpOrd_alone (by simp only [List.getElem?_toArray, List.getElem?_cons_succ, List.getElem?_cons_zero]; rfl) (fun K hK => ?_)
        go_simp
        rw [← HUS.out]
        (go_at_call 38; refine (HCM.out _).mono ?_; rintro e w' ⟨rfl, hb⟩)
        have ht := hHeld.2.next hb hHeld.2.lt
        refine hK.out _ _ ⟨ht.see HUL.out HDL.out, ht⟩ (fun hHeld => ?_)
        clear hK K ht hb
        iterate 1 (first | (refine wpOrd_skip (by simp only [List.getElem?_toArray, List.getElem?_cons_succ, List.getElem?_cons_zero]; rfl) (by rfl) ?_; (simp only [Act.put, List.setIfInBounds_toArray, List.set_cons_zero, List.set_cons_succ])) | (refine wpOrd_take (v := ?_) (by simp only [List.getElem?_toArray, List.getElem?_cons_succ, List.getElem?_cons_zero]; rfl) (by rfl) ?_ ?_; rotate_left; (· (intro w hSw; (try dsimp only at hSw); go_simp; try with_reducible rfl)); (simp only [Act.put, List.setIfInBounds_toArray, List.set_cons_zero, List.set_cons_succ])))
        refine wpOrd_done ?_
        have HT2 := Lib.hid hHeld.2
        clear hHeld HCM HAD HOF
        have hcm : decide (cmpI (D + 1152921504606846976) U < 0) = decide (D + 1152921504606846976 < U) := cmp_lt
        obtain ⟨ov, hov⟩ : ∃ ov, decide (D + 1152921504606846976 < U) = ov := ⟨_, rfl⟩
        rw [hov] at hcm
        rw [hcm]
        have HOV := Lib.hid hov
        clear hcm hov
        cases ov
        · have hle : U - D ≤ 1152921504606846976 := by have := HOV.out; simp at this; omega
          have HLE := Lib.hid hle
          clear hle
          go_wp2_with fail
          generalize cmpI (D + 1152921504606846976) U = cz at *
          go_loopw [11, 12] (fun vv sv wr => ∃ (v st e : Nat), vv = .int .i64 v ∧ sv = .int .i64 st ∧ v ≤ U - D ∧ ((st = 0 ∧ v = U - D) ∨ (st = 2 ^ e ∧ e ≤ 60 ∧ U - D < v + 2 * st)) ∧ Two w.heap.size (Bg.ofD 6 U) (Bg.ofD 6 D) w wr) (fun _ sv _ => (intOf sv).toNat)
          case atStart => exact ⟨0, 1152921504606846976, 60, rfl, rfl, by omega, .inr ⟨by decide, by omega, by have := HLE.out; omega⟩, HT2.out⟩
          case round =>
            obtain ⟨v, st, e, rfl, rfl, hv, hst, ht⟩ := hrel
            have HT := Lib.hid ht
            clear ht
            rcases hst with ⟨rfl, rfl⟩ | ⟨hst, he, hlt⟩
            · have hvv : ((U - D : Nat) : Int) = (U : Int) - (D : Int) := by have := HXY.out; omega
              have HVV := Lib.hid hvv
              obtain ⟨z, hz⟩ : ∃ z, U - D = z := ⟨_, rfl⟩
              have HZ := Lib.hid hz
              have hzb : z ≤ 1152921504606846976 := by have := HLE.out; omega
              rw [hz] at HVV ⊢
              clear hvv hz hv
              go_wp2_with fail
              go_ret
              have hb2 : Blk wr b 28 #[.bool o] := Blk.below H.out HT.out.be HLT.out
              refine ref_n ?_ ?_ hb2 ((Keeps.of_below HT.out.be []).mono (by simp))
              · unfold clampV; rw [HSS.out]; have := HVV.out; rw [if_neg (by omega), if_neg (by omega)]; omega
              · unfold clampO; rw [HSS.out]; have := HVV.out; simp; omega
            · have hst0 : 0 < st := by rw [hst]; exact Nat.two_pow_pos e
              have hstb : st ≤ 1152921504606846976 := by rw [hst]; exact Nat.pow_le_pow_right (by omega) he
              have HST := Lib.hid hst
              have HLT2 := Lib.hid hlt
              have hvb : v ≤ 1152921504606846976 := by have := HLE.out; omega
              have HVB := Lib.hid hv
              have HEB := Lib.hid he
              clear hst hlt hv he
              go_wp2_with fail
              obtain ⟨z, hz⟩ : ∃ z, v + st = z := ⟨_, rfl⟩
              have hws : IntKind.i64.wrap ((v : Int) + (st : Int)) = (z : Int) := by rw [IntWalk.i64_in _ (by omega)]; omega
              have HOF := Lib.hid (of_bg z (by omega))
              have HAD := Lib.hid (add_bg D z (by have := HXY.out; omega))
              have HCM := Lib.hid (cmp_any (D + z) U (by have := HXY.out; omega) (by have := HXY.out; omega))
              have HZ := Lib.hid hz
              clear hz
              refine wp_region_ord ((0, false) :: (1, false) :: (2, false) :: (3, false) :: (6, false) :: (4, true) :: (5, true) :: (7, true) :: (8, false) :: []) (fun w' => (((w'.cell? ⟨w.heap.size, 0, none⟩ = some (.int .i64 (u0 : Int)) ∧ w'.cell? ⟨w.heap.size, 1, none⟩ = some (.int .i64 (u1 : Int)) ∧ w'.cell? ⟨w.heap.size, 2, none⟩ = some (.int .i64 (u2 : Int))) ∧ (w'.cell? ⟨w.heap.size, 3, none⟩ = some (.int .i64 (u3 : Int)) ∧ w'.cell? ⟨w.heap.size, 4, none⟩ = some (.int .i64 (u4 : Int)) ∧ w'.cell? ⟨w.heap.size, 5, none⟩ = some (.int .i64 (u5 : Int)))) ∧ ((w'.cell? ⟨(w.heap.size + 1), 0, none⟩ = some (.int .i64 (d0 : Int)) ∧ w'.cell? ⟨(w.heap.size + 1), 1, none⟩ = some (.int .i64 (d1 : Int)) ∧ w'.cell? ⟨(w.heap.size + 1), 2, none⟩ = some (.int .i64 (d2 : Int))) ∧ (w'.cell? ⟨(w.heap.size + 1), 3, none⟩ = some (.int .i64 (d3 : Int)) ∧ w'.cell? ⟨(w.heap.size + 1), 4, none⟩ = some (.int .i64 (d4 : Int)) ∧ w'.cell? ⟨(w.heap.size + 1), 5, none⟩ = some (.int .i64 (d5 : Int))))) ∧ Two w.heap.size (Bg.ofD 6 U) (Bg.ofD 6 D) w w') (by kernel_rfl) (by kernel_rfl) (by kernel_rfl) (by kernel_rfl) (fun _ _ d _ _ h => by cases d <;> exact h) ?_ (fun hHeld => ?_)
              · exact ⟨(HT.out.drewN 1).see HUL.out HDL.out, HT.out.drewN 1⟩
              iterate 5 (first | (refine wpOrd_skip (by simp only [List.getElem?_toArray, List.getElem?_cons_succ, List.getElem?_cons_zero]; rfl) (by rfl) ?_; (simp only [Act.put, List.setIfInBounds_toArray, List.set_cons_zero, List.set_cons_succ])) | (refine wpOrd_take (v := ?_) (by simp only [List.getElem?_toArray, List.getElem?_cons_succ, List.getElem?_cons_zero]; rfl) (by rfl) ?_ ?_; rotate_left; (· (intro w hSw; (try dsimp only at hSw); go_simp; try with_reducible rfl)); (simp only [Act.put, List.setIfInBounds_toArray, List.set_cons_zero, List.set_cons_succ])))
              refine wpOrd_alone (by simp only [List.getElem?_toArray, List.getElem?_cons_succ, List.getElem?_cons_zero]; rfl) (fun K hK => ?_)
              go_simp
              (go_at_call 39; refine (HOF.out _).mono ?_; rintro e w' ⟨rfl, hb⟩)
              have ht := hHeld.2.next hb hHeld.2.lt
              refine hK.out _ _ ⟨ht.see HUL.out HDL.out, ht⟩ (fun hHeld => ?_)
              clear hK K ht hb
              refine wpOrd_alone (by simp only [List.getElem?_toArray, List.getElem?_cons_succ, List.getElem?_cons_zero]; rfl) (fun K hK => ?_)
              go_simp
              rw [← HDS.out]
              (go_at_call 37; refine (HAD.out _).mono ?_; rintro e w' ⟨rfl, hb⟩)
              have ht := hHeld.2.next hb hHeld.2.lt
              refine hK.out _ _ ⟨ht.see HUL.out HDL.out, ht⟩ (fun hHeld => ?_)
              clear hK K ht hb
              refine wpOrd_alone (by simp only [List.getElem?_toArray, List.getElem?_cons_succ, List.getElem?_cons_zero]; rfl) (fun K hK => ?_)
              go_simp
              rw [← HUS.out]
              (go_at_call 38; refine (HCM.out _).mono ?_; rintro e w' ⟨rfl, hb⟩)
              have ht := hHeld.2.next hb hHeld.2.lt
              refine hK.out _ _ ⟨ht.see HUL.out HDL.out, ht⟩ (fun hHeld => ?_)
              clear hK K ht hb
              iterate 1 (first | (refine wpOrd_skip (by simp only [List.getElem?_toArray, List.getElem?_cons_succ, List.getElem?_cons_zero]; rfl) (by rfl) ?_; (simp only [Act.put, List.setIfInBounds_toArray, List.set_cons_zero, List.set_cons_succ])) | (refine wpOrd_take (v := ?_) (by simp only [List.getElem?_toArray, List.getElem?_cons_succ, List.getElem?_cons_zero]; rfl) (by rfl) ?_ ?_; rotate_left; (· (intro w hSw; (try dsimp only at hSw); go_simp; try with_reducible rfl)); (simp only [Act.put, List.setIfInBounds_toArray, List.set_cons_zero, List.set_cons_succ])))
              refine wpOrd_done ?_
              have HT3 := Lib.hid hHeld.2
              clear hHeld HCM HAD HOF hws
              have hcm : decide (cmpI (D + z) U ≤ 0) = decide (D + z ≤ U) := cmp_le
              generalize cmpI (D + z) U = cz at *
              obtain ⟨ov, hov⟩ : ∃ ov, decide (D + z ≤ U) = ov := ⟨_, rfl⟩
              rw [hov] at hcm
              rw [hcm]
              have HOV := Lib.hid hov
              clear hcm hov
              have hhalf : ∃ st', st / 2 = st' ∧ (∀ v', (v' = v ∧ U - D < v + st ∨ v' = v + st ∧ v + st ≤ U - D) → v' ≤ U - D ∧ ((st' = 0 ∧ v' = U - D) ∨ (∃ e', st' = 2 ^ e' ∧ e' ≤ 60 ∧ U - D < v' + 2 * st'))) := by
                refine ⟨_, rfl, fun v' hv' => ⟨by have := HVB.out; omega, ?_⟩⟩
                have h1 := HST.out
                have h2 := HLT2.out
                have h3 := HVB.out
                rcases e with _ | e
                · left
                  simp at h1
                  subst h1
                  omega
                · right
                  rw [Nat.pow_succ] at h1
                  refine ⟨e, by omega, by have := HEB.out; omega, by omega⟩
              obtain ⟨st', hst', hrel'⟩ := hhalf
              have HREL := Lib.hid hrel'
              have hst'' : (st : Int) / 2 = (st' : Int) := by omega
              have hlow : st' < st := by omega
              clear hst' hrel'
              cases ov
              · have HC : Hid (v = v ∧ U - D < v + st) := Lib.hid (by have := HOV.out; have := HZ.out; simp at *; omega)
                go_wp2_with fail
                refine ⟨?rel, ?measure⟩
                case rel =>
                  obtain ⟨r1, r2⟩ := HREL.out v (.inl HC.out)
                  rcases r2 with r2 | ⟨e', r2⟩
                  · exact ⟨v, st', 0, rfl, rfl, r1, .inl r2, HT3.out⟩
                  · exact ⟨v, st', e', rfl, rfl, r1, .inr r2, HT3.out⟩
                case measure => simp [intOf]; omega
              · have HC : Hid (v + st = v + st ∧ v + st ≤ U - D) := Lib.hid (by have := HOV.out; have := HZ.out; simp at *; omega)
                go_wp2_with fail
                refine ⟨?rel, ?measure⟩
                case rel =>
                  obtain ⟨r1, r2⟩ := HREL.out (v + st) (.inr HC.out)
                  rcases r2 with r2 | ⟨e', r2⟩
                  · exact ⟨v + st, st', 0, by go_num, rfl, r1, .inl r2, HT3.out⟩
                  · exact ⟨v + st, st', e', by go_num, rfl, r1, .inr r2, HT3.out⟩
                case measure => simp [intOf]; omega
        · have hgt : D + 1152921504606846976 < U := by have := HOV.out; simpa using this
          have HGT := Lib.hid hgt
          clear hgt
          go_wp2_with fail
          have hb2 : Blk w' b 28 #[.bool o] := Blk.below H.out HT2.out.be HLT.out
          have HB2 := Lib.hid hb2
          clear hb2
          refine (end_any b o false _ HB2.out).mono ?_
          rintro en w6 ⟨rfl, rfl⟩
          go_wp2_with fail
          go_ret
          have hg := HGT.out
          refine ref_n ?_ ?_ (by have := HB2.out.set_ 0 (.bool true); simpa using this) (((Keeps.of_below HT2.out.be []).mono (by simp)).setCell (.inl (by simp)) _)
          · unfold clampV; rw [HSS.out]; rw [if_pos (by omega)]
          · unfold clampO; rw [HSS.out]; simp; omega

      · have hnn : U < D := by have := HOV.out; simpa using this
        obtain ⟨⟨⟨a0, a1, a2⟩, a3, a4, a5⟩, ⟨b0, b1, b2⟩, b3, b4, b5⟩ := HT2.out.see HUL.out HDL.out
        obtain ⟨⟨f0, f1, f2⟩, f3, f4, f5⟩ := BigB.free HT2.out.fst
        obtain ⟨⟨g0, g1, g2⟩, g3, g4, g5⟩ := BigB.free HT2.out.snd
        go_wp2_with fail
        change Code.wp _ _ _ _ (put6 (put6 w2 w.heap.size d0 d1 d2 d3 d4 d5) (w.heap.size + 1) u0 u1 u2 u3 u4 u5)
        have htwo : Two w.heap.size (Bg.ofD 6 D) (Bg.ofD 6 U) w (put6 (put6 w2 w.heap.size d0 d1 d2 d3 d4 d5) (w.heap.size + 1) u0 u1 u2 u3 u4 u5) := by
          have p1 := put6_big HT2.out.fst (Bg.ofD_length 6 _) d0 d1 d2 d3 d4 d5
          have p2 := put6_big (put6_far HT2.out.snd (show w.heap.size + 1 ≠ w.heap.size by omega) d0 d1 d2 d3 d4 d5) (Bg.ofD_length 6 _) u0 u1 u2 u3 u4 u5
          refine ⟨?_, ?_, put6_below (put6_below HT2.out.be (Nat.le_refl _) d0 d1 d2 d3 d4 d5) (by omega) u0 u1 u2 u3 u4 u5⟩
          · rw [HDL.out]; exact put6_far p1 (by omega) u0 u1 u2 u3 u4 u5
          · rw [HUL.out]; exact p2
        clear a0 a1 a2 a3 a4 a5 b0 b1 b2 b3 b4 b5 f0 f1 f2 f3 f4 f5 g0 g1 g2 g3 g4 g5
        generalize put6 (put6 w2 w.heap.size d0 d1 d2 d3 d4 d5) (w.heap.size + 1) u0 u1 u2 u3 u4 u5 = W at *
        clear hcm
        have HTWO : Hid (Two w.heap.size (Bg.ofD 6 D) (Bg.ofD 6 U) w W) := Lib.hid htwo
        clear htwo
        have HSS : Hid (sumI xs = -((D : Int) - (U : Int))) := Lib.hid (by have := HSF.out; omega)
        have HXY : Hid (U ≤ D ∧ D < 20000000000000000000000000000) := Lib.hid (by have := HBIG.out; omega)
        have hof := of_bg 1152921504606846976 (by decide)
        rw [show ((1152921504606846976 : Nat) : Int) = 1152921504606846976 from rfl] at hof
        have HOF := Lib.hid hof
        have HAD := Lib.hid (add_bg U 1152921504606846976 (by have := HXY.out; omega))
        have HCM := Lib.hid (cmp_any (U + 1152921504606846976) D (by have := HXY.out; omega) (by have := HXY.out; omega))
        clear hof
        refine wp_region_ord ((0, false) :: (3, false) :: (1, true) :: (2, true) :: (4, true) :: (5, false) :: []) (fun w' => (((w'.cell? ⟨w.heap.size, 0, none⟩ = some (.int .i64 (d0 : Int)) ∧ w'.cell? ⟨w.heap.size, 1, none⟩ = some (.int .i64 (d1 : Int)) ∧ w'.cell? ⟨w.heap.size, 2, none⟩ = some (.int .i64 (d2 : Int))) ∧ (w'.cell? ⟨w.heap.size, 3, none⟩ = some (.int .i64 (d3 : Int)) ∧ w'.cell? ⟨w.heap.size, 4, none⟩ = some (.int .i64 (d4 : Int)) ∧ w'.cell? ⟨w.heap.size, 5, none⟩ = some (.int .i64 (d5 : Int)))) ∧ ((w'.cell? ⟨(w.heap.size + 1), 0, none⟩ = some (.int .i64 (u0 : Int)) ∧ w'.cell? ⟨(w.heap.size + 1), 1, none⟩ = some (.int .i64 (u1 : Int)) ∧ w'.cell? ⟨(w.heap.size + 1), 2, none⟩ = some (.int .i64 (u2 : Int))) ∧ (w'.cell? ⟨(w.heap.size + 1), 3, none⟩ = some (.int .i64 (u3 : Int)) ∧ w'.cell? ⟨(w.heap.size + 1), 4, none⟩ = some (.int .i64 (u4 : Int)) ∧ w'.cell? ⟨(w.heap.size + 1), 5, none⟩ = some (.int .i64 (u5 : Int))))) ∧ Two w.heap.size (Bg.ofD 6 D) (Bg.ofD 6 U) w w') (by kernel_rfl) (by kernel_rfl) (by kernel_rfl) (by kernel_rfl) (fun _ _ d _ _ h => by cases d <;> exact h) ?_ (fun hHeld => ?_)
        · exact ⟨(HTWO.out.drewN 1).see HDL.out HUL.out, HTWO.out.drewN 1⟩
        iterate 2 (first | (refine wpOrd_skip (by simp only [List.getElem?_toArray, List.getElem?_cons_succ, List.getElem?_cons_zero]; rfl) (by rfl) ?_; (simp only [Act.put, List.setIfInBounds_toArray, List.set_cons_zero, List.set_cons_succ])) | (refine wpOrd_take (v := ?_) (by simp only [List.getElem?_toArray, List.getElem?_cons_succ, List.getElem?_cons_zero]; rfl) (by rfl) ?_ ?_; rotate_left; (· (intro w hSw; (try dsimp only at hSw); go_simp; try with_reducible rfl)); (simp only [Act.put, List.setIfInBounds_toArray, List.set_cons_zero, List.set_cons_succ])))
        refine wpOrd_alone (by simp only [List.getElem?_toArray, List.getElem?_cons_succ, List.getElem?_cons_zero]; rfl) (fun K hK => ?_)
        go_simp
        (go_at_call 39; refine (HOF.out _).mono ?_; rintro e w' ⟨rfl, hb⟩)
        have ht := hHeld.2.next hb hHeld.2.lt
        refine hK.out _ _ ⟨ht.see HDL.out HUL.out, ht⟩ (fun hHeld => ?_)
        clear hK K ht hb
        refine wpOrd_alone (by simp only [List.getElem?_toArray, List.getElem?_cons_succ, List.getElem?_cons_zero]; rfl) (fun K hK => ?_)
        go_simp
        rw [← HUS.out]
        (go_at_call 37; refine (HAD.out _).mono ?_; rintro e w' ⟨rfl, hb⟩)
        have ht := hHeld.2.next hb hHeld.2.lt
        refine hK.out _ _ ⟨ht.see HDL.out HUL.out, ht⟩ (fun hHeld => ?_)
        clear hK K ht hb
        refine wpOrd_alone (by simp only [List.getElem?_toArray, List.getElem?_cons_succ, List.getElem?_cons_zero]; rfl) (fun K hK => ?_)
        go_simp
        rw [← HDS.out]
        (go_at_call 38; refine (HCM.out _).mono ?_; rintro e w' ⟨rfl, hb⟩)
        have ht := hHeld.2.next hb hHeld.2.lt
        refine hK.out _ _ ⟨ht.see HDL.out HUL.out, ht⟩ (fun hHeld => ?_)
        clear hK K ht hb
        iterate 1 (first | (refine wpOrd_skip (by simp only [List.getElem?_toArray, List.getElem?_cons_succ, List.getElem?_cons_zero]; rfl) (by rfl) ?_; (simp only [Act.put, List.setIfInBounds_toArray, List.set_cons_zero, List.set_cons_succ])) | (refine wpOrd_take (v := ?_) (by simp only [List.getElem?_toArray, List.getElem?_cons_succ, List.getElem?_cons_zero]; rfl) (by rfl) ?_ ?_; rotate_left; (· (intro w hSw; (try dsimp only at hSw); go_simp; try with_reducible rfl)); (simp only [Act.put, List.setIfInBounds_toArray, List.set_cons_zero, List.set_cons_succ])))
        refine wpOrd_done ?_
        have HT2 := Lib.hid hHeld.2
        clear hHeld HCM HAD HOF
        have hcm : decide (cmpI (U + 1152921504606846976) D < 0) = decide (U + 1152921504606846976 < D) := cmp_lt
        obtain ⟨ov, hov⟩ : ∃ ov, decide (U + 1152921504606846976 < D) = ov := ⟨_, rfl⟩
        rw [hov] at hcm
        rw [hcm]
        have HOV := Lib.hid hov
        clear hcm hov
        cases ov
        · have hle : D - U ≤ 1152921504606846976 := by have := HOV.out; simp at this; omega
          have HLE := Lib.hid hle
          clear hle
          go_wp2_with fail
          generalize cmpI (U + 1152921504606846976) D = cz at *
          go_loopw [11, 12] (fun vv sv wr => ∃ (v st e : Nat), vv = .int .i64 v ∧ sv = .int .i64 st ∧ v ≤ D - U ∧ ((st = 0 ∧ v = D - U) ∨ (st = 2 ^ e ∧ e ≤ 60 ∧ D - U < v + 2 * st)) ∧ Two w.heap.size (Bg.ofD 6 D) (Bg.ofD 6 U) w wr) (fun _ sv _ => (intOf sv).toNat)
          case atStart => exact ⟨0, 1152921504606846976, 60, rfl, rfl, by omega, .inr ⟨by decide, by omega, by have := HLE.out; omega⟩, HT2.out⟩
          case round =>
            obtain ⟨v, st, e, rfl, rfl, hv, hst, ht⟩ := hrel
            have HT := Lib.hid ht
            clear ht
            rcases hst with ⟨rfl, rfl⟩ | ⟨hst, he, hlt⟩
            · have hvv : ((D - U : Nat) : Int) = (D : Int) - (U : Int) := by have := HXY.out; omega
              have HVV := Lib.hid hvv
              obtain ⟨z, hz⟩ : ∃ z, D - U = z := ⟨_, rfl⟩
              have HZ := Lib.hid hz
              have hzb : z ≤ 1152921504606846976 := by have := HLE.out; omega
              rw [hz] at HVV ⊢
              clear hvv hz hv
              go_wp2_with fail
              go_ret
              have hb2 : Blk wr b 28 #[.bool o] := Blk.below H.out HT.out.be HLT.out
              refine ref_n ?_ ?_ hb2 ((Keeps.of_below HT.out.be []).mono (by simp))
              · unfold clampV; rw [HSS.out]; have := HVV.out; rw [if_neg (by omega), if_neg (by omega)]; omega
              · unfold clampO; rw [HSS.out]; have := HVV.out; simp; omega
            · have hst0 : 0 < st := by rw [hst]; exact Nat.two_pow_pos e
              have hstb : st ≤ 1152921504606846976 := by rw [hst]; exact Nat.pow_le_pow_right (by omega) he
              have HST := Lib.hid hst
              have HLT2 := Lib.hid hlt
              have hvb : v ≤ 1152921504606846976 := by have := HLE.out; omega
              have HVB := Lib.hid hv
              have HEB := Lib.hid he
              clear hst hlt hv he
              go_wp2_with fail
              obtain ⟨z, hz⟩ : ∃ z, v + st = z := ⟨_, rfl⟩
              have hws : IntKind.i64.wrap ((v : Int) + (st : Int)) = (z : Int) := by rw [IntWalk.i64_in _ (by omega)]; omega
              have HOF := Lib.hid (of_bg z (by omega))
              have HAD := Lib.hid (add_bg U z (by have := HXY.out; omega))
              have HCM := Lib.hid (cmp_any (U + z) D (by have := HXY.out; omega) (by have := HXY.out; omega))
              have HZ := Lib.hid hz
              clear hz
              refine wp_region_ord ((0, false) :: (1, false) :: (2, false) :: (3, false) :: (6, false) :: (4, true) :: (5, true) :: (7, true) :: (8, false) :: []) (fun w' => (((w'.cell? ⟨w.heap.size, 0, none⟩ = some (.int .i64 (d0 : Int)) ∧ w'.cell? ⟨w.heap.size, 1, none⟩ = some (.int .i64 (d1 : Int)) ∧ w'.cell? ⟨w.heap.size, 2, none⟩ = some (.int .i64 (d2 : Int))) ∧ (w'.cell? ⟨w.heap.size, 3, none⟩ = some (.int .i64 (d3 : Int)) ∧ w'.cell? ⟨w.heap.size, 4, none⟩ = some (.int .i64 (d4 : Int)) ∧ w'.cell? ⟨w.heap.size, 5, none⟩ = some (.int .i64 (d5 : Int)))) ∧ ((w'.cell? ⟨(w.heap.size + 1), 0, none⟩ = some (.int .i64 (u0 : Int)) ∧ w'.cell? ⟨(w.heap.size + 1), 1, none⟩ = some (.int .i64 (u1 : Int)) ∧ w'.cell? ⟨(w.heap.size + 1), 2, none⟩ = some (.int .i64 (u2 : Int))) ∧ (w'.cell? ⟨(w.heap.size + 1), 3, none⟩ = some (.int .i64 (u3 : Int)) ∧ w'.cell? ⟨(w.heap.size + 1), 4, none⟩ = some (.int .i64 (u4 : Int)) ∧ w'.cell? ⟨(w.heap.size + 1), 5, none⟩ = some (.int .i64 (u5 : Int))))) ∧ Two w.heap.size (Bg.ofD 6 D) (Bg.ofD 6 U) w w') (by kernel_rfl) (by kernel_rfl) (by kernel_rfl) (by kernel_rfl) (fun _ _ d _ _ h => by cases d <;> exact h) ?_ (fun hHeld => ?_)
              · exact ⟨(HT.out.drewN 1).see HDL.out HUL.out, HT.out.drewN 1⟩
              iterate 5 (first | (refine wpOrd_skip (by simp only [List.getElem?_toArray, List.getElem?_cons_succ, List.getElem?_cons_zero]; rfl) (by rfl) ?_; (simp only [Act.put, List.setIfInBounds_toArray, List.set_cons_zero, List.set_cons_succ])) | (refine wpOrd_take (v := ?_) (by simp only [List.getElem?_toArray, List.getElem?_cons_succ, List.getElem?_cons_zero]; rfl) (by rfl) ?_ ?_; rotate_left; (· (intro w hSw; (try dsimp only at hSw); go_simp; try with_reducible rfl)); (simp only [Act.put, List.setIfInBounds_toArray, List.set_cons_zero, List.set_cons_succ])))
              refine wpOrd_alone (by simp only [List.getElem?_toArray, List.getElem?_cons_succ, List.getElem?_cons_zero]; rfl) (fun K hK => ?_)
              go_simp
              (go_at_call 39; refine (HOF.out _).mono ?_; rintro e w' ⟨rfl, hb⟩)
              have ht := hHeld.2.next hb hHeld.2.lt
              refine hK.out _ _ ⟨ht.see HDL.out HUL.out, ht⟩ (fun hHeld => ?_)
              clear hK K ht hb
              refine wpOrd_alone (by simp only [List.getElem?_toArray, List.getElem?_cons_succ, List.getElem?_cons_zero]; rfl) (fun K hK => ?_)
              go_simp
              rw [← HUS.out]
              (go_at_call 37; refine (HAD.out _).mono ?_; rintro e w' ⟨rfl, hb⟩)
              have ht := hHeld.2.next hb hHeld.2.lt
              refine hK.out _ _ ⟨ht.see HDL.out HUL.out, ht⟩ (fun hHeld => ?_)
              clear hK K ht hb
              refine wpOrd_alone (by simp only [List.getElem?_toArray, List.getElem?_cons_succ, List.getElem?_cons_zero]; rfl) (fun K hK => ?_)
              go_simp
              rw [← HDS.out]
              (go_at_call 38; refine (HCM.out _).mono ?_; rintro e w' ⟨rfl, hb⟩)
              have ht := hHeld.2.next hb hHeld.2.lt
              refine hK.out _ _ ⟨ht.see HDL.out HUL.out, ht⟩ (fun hHeld => ?_)
              clear hK K ht hb
              iterate 1 (first | (refine wpOrd_skip (by simp only [List.getElem?_toArray, List.getElem?_cons_succ, List.getElem?_cons_zero]; rfl) (by rfl) ?_; (simp only [Act.put, List.setIfInBounds_toArray, List.set_cons_zero, List.set_cons_succ])) | (refine wpOrd_take (v := ?_) (by simp only [List.getElem?_toArray, List.getElem?_cons_succ, List.getElem?_cons_zero]; rfl) (by rfl) ?_ ?_; rotate_left; (· (intro w hSw; (try dsimp only at hSw); go_simp; try with_reducible rfl)); (simp only [Act.put, List.setIfInBounds_toArray, List.set_cons_zero, List.set_cons_succ])))
              refine wpOrd_done ?_
              have HT3 := Lib.hid hHeld.2
              clear hHeld HCM HAD HOF hws
              have hcm : decide (cmpI (U + z) D ≤ 0) = decide (U + z ≤ D) := cmp_le
              generalize cmpI (U + z) D = cz at *
              obtain ⟨ov, hov⟩ : ∃ ov, decide (U + z ≤ D) = ov := ⟨_, rfl⟩
              rw [hov] at hcm
              rw [hcm]
              have HOV := Lib.hid hov
              clear hcm hov
              have hhalf : ∃ st', st / 2 = st' ∧ (∀ v', (v' = v ∧ D - U < v + st ∨ v' = v + st ∧ v + st ≤ D - U) → v' ≤ D - U ∧ ((st' = 0 ∧ v' = D - U) ∨ (∃ e', st' = 2 ^ e' ∧ e' ≤ 60 ∧ D - U < v' + 2 * st'))) := by
                refine ⟨_, rfl, fun v' hv' => ⟨by have := HVB.out; omega, ?_⟩⟩
                have h1 := HST.out
                have h2 := HLT2.out
                have h3 := HVB.out
                rcases e with _ | e
                · left
                  simp at h1
                  subst h1
                  omega
                · right
                  rw [Nat.pow_succ] at h1
                  refine ⟨e, by omega, by have := HEB.out; omega, by omega⟩
              obtain ⟨st', hst', hrel'⟩ := hhalf
              have HREL := Lib.hid hrel'
              have hst'' : (st : Int) / 2 = (st' : Int) := by omega
              have hlow : st' < st := by omega
              clear hst' hrel'
              cases ov
              · have HC : Hid (v = v ∧ D - U < v + st) := Lib.hid (by have := HOV.out; have := HZ.out; simp at *; omega)
                go_wp2_with fail
                refine ⟨?rel, ?measure⟩
                case rel =>
                  obtain ⟨r1, r2⟩ := HREL.out v (.inl HC.out)
                  rcases r2 with r2 | ⟨e', r2⟩
                  · exact ⟨v, st', 0, rfl, rfl, r1, .inl r2, HT3.out⟩
                  · exact ⟨v, st', e', rfl, rfl, r1, .inr r2, HT3.out⟩
                case measure => simp [intOf]; omega
              · have HC : Hid (v + st = v + st ∧ v + st ≤ D - U) := Lib.hid (by have := HOV.out; have := HZ.out; simp at *; omega)
                go_wp2_with fail
                refine ⟨?rel, ?measure⟩
                case rel =>
                  obtain ⟨r1, r2⟩ := HREL.out (v + st) (.inr HC.out)
                  rcases r2 with r2 | ⟨e', r2⟩
                  · exact ⟨v + st, st', 0, by go_num, rfl, r1, .inl r2, HT3.out⟩
                  · exact ⟨v + st, st', e', by go_num, rfl, r1, .inr r2, HT3.out⟩
                case measure => simp [intOf]; omega
        · have hgt : U + 1152921504606846976 < D := by have := HOV.out; simpa using this
          have HGT := Lib.hid hgt
          clear hgt
          go_wp2_with fail
          have hb2 : Blk w' b 28 #[.bool o] := Blk.below H.out HT2.out.be HLT.out
          have HB2 := Lib.hid hb2
          clear hb2
          refine (end_any b o true _ HB2.out).mono ?_
          rintro en w6 ⟨rfl, rfl⟩
          go_wp2_with fail
          go_ret
          have hg := HGT.out
          refine ref_n ?_ ?_ (by have := HB2.out.set_ 0 (.bool true); simpa using this) (((Keeps.of_below HT2.out.be []).mono (by simp)).setCell (.inl (by simp)) _)
          · unfold clampV; rw [HSS.out]; rw [if_neg (by omega), if_pos (by omega)]
          · unfold clampO; rw [HSS.out]; simp; omega
end Go.Proofs.Ytkokgdebahgbdaa

