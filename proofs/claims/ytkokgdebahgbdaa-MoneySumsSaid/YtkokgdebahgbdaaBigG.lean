/-
  The contract of the reference's Product.
-/
import Derived.Test.YtkokgdebahgbdaaBigF
import Derived.Test.YtkokgdebahgbdaaKeeps
namespace Go.Proofs.Ytkokgdebahgbdaa
open Go.RowKit

/-- the reference's Acc in block b told V, and keeps o in mind -/
def RefN (w : World) (b : Nat) (V : Int) (o : Bool) (e : Ending) (w' : World) : Prop := e = .returned (.int .i64 V) ∧ Blk w' b 28 #[.bool o] ∧ Keeps [b] w w'
theorem ref_n {w w' : World} {b : Nat} {V V' : Int} {o o' : Bool} (hV : V = V') (ho : o = o') (hb : Blk w' b 28 #[.bool o]) (hk : Keeps [b] w w') : RefN w b V' o' (.returned (.int .i64 V)) w' := by subst hV ho; exact ⟨rfl, hb, hk⟩

theorem cmp_gt {n m : Nat} : decide (0 < cmpI n m) = decide (m < n) := by
  unfold cmpI
  rcases Nat.lt_trichotomy n m with h | h | h
  · rw [if_pos h]; simp; omega
  · rw [if_neg (by omega), if_neg (by omega)]; simp; omega
  · rw [if_neg (by omega), if_pos h]; simp; omega

theorem mulV_big {x y : Int} (h : 1152921504606846976 < x.natAbs * y.natAbs) : mulV x y = (if (decide (x < 0) != decide (y < 0)) then -1152921504606846976 else 1152921504606846976) ∧ mulO x y = true := by
  unfold mulV mulO
  rcases natAbs_mul_or x y with ⟨h1, h2⟩ | ⟨h1, h2⟩
  · have e : (decide (x < 0) != decide (y < 0)) = false := by
      rcases h2 with ⟨a, b⟩ | ⟨a, b⟩ <;> simp [a, b] <;> omega
    rw [e, h1]
    generalize x.natAbs * y.natAbs = P at *
    rw [if_pos (by omega)]
    simp; omega
  · have e : (decide (x < 0) != decide (y < 0)) = true ∨ x * y = 0 := by
      rcases h2 with ⟨a, b⟩ | ⟨a, b⟩
      · left
        have h3 : ¬ x < 0 := by omega
        simp [h3, b]
      · left
        have h3 : ¬ y < 0 := by omega
        simp [h3, a]
    generalize x.natAbs * y.natAbs = P at *
    rcases e with e | e
    · rw [e, h1, if_neg (by omega), if_pos (by omega)]
      simp; omega
    · omega
theorem mulV_small {x y : Int} (h : x.natAbs * y.natAbs ≤ 1152921504606846976) : mulV x y = x * y ∧ mulO x y = false ∧ -1152921504606846976 ≤ x * y ∧ x * y ≤ 1152921504606846976 := by
  unfold mulV mulO
  have hb : -1152921504606846976 ≤ x * y ∧ x * y ≤ 1152921504606846976 := by
    rcases natAbs_mul_or x y with ⟨h1, _⟩ | ⟨h1, _⟩ <;> rw [h1] <;> omega
  refine ⟨?_, ?_, hb⟩
  · rw [if_neg (by omega), if_neg (by omega)]
  · simp; omega

set_option maxHeartbeats 4000000 in
theorem product_any (b : Nat) (o : Bool) (x y : Int) (hx : IsI64 x) (hy : IsI64 y) (w : World) (h : Blk w b 28 #[.bool o]) :
    Calls Try.prog 19 #[.pointer (some ⟨b, 0, none⟩), .int .i64 x, .int .i64 y] w (RefN w b (mulV x y) (o || mulO x y)) := by
  have hxa : x.natAbs ≤ 9223372036854775808 := by unfold IsI64 at hx; omega
  have hya : y.natAbs ≤ 9223372036854775808 := by unfold IsI64 at hy; omega
  have hP : x.natAbs * y.natAbs ≤ 9223372036854775808 * 9223372036854775808 := Nat.mul_le_mul hxa hya
  have HMX := Lib.hid (magn_any x hx)
  have HMY := Lib.hid (magn_any y hy)
  have HMM := Lib.hid (mul_bg x.natAbs y.natAbs (by omega) (by omega) (by omega))
  have hof := of_bg 1152921504606846976 (by decide)
  rw [show ((1152921504606846976 : Nat) : Int) = 1152921504606846976 from rfl] at hof
  have HOF := Lib.hid hof
  have HCM := Lib.hid (cmp_any (x.natAbs * y.natAbs) 1152921504606846976 (by omega) (by decide))
  have HBIG := Lib.hid (mulV_big (x := x) (y := y))
  have HSM := Lib.hid (mulV_small (x := x) (y := y))
  obtain ⟨p0, p1, p2, p3, p4, p5, hp, _⟩ := bg_six x.natAbs
  obtain ⟨q0, q1, q2, q3, q4, q5, hq, _⟩ := bg_six y.natAbs
  generalize hPP : x.natAbs * y.natAbs = P at *
  obtain ⟨r0, r1, r2, r3, r4, r5, hr, hrl⟩ := bg_six P
  have HP := Lib.hid hp
  have HQ := Lib.hid hq
  have HR := Lib.hid hr
  have H := Lib.hid h
  have HLT := Lib.hid (Blk.lt h)
  clear hx hy hxa hya hP hof hp hq hr h hPP hrl
  unfold MagN at HMX HMY
  generalize decide (x < 0) = sx at *
  generalize decide (y < 0) = sy at *
  go_enter Try.func19, Try.ntmps19
  go_wp2_with fail
  refine (HMX.out w).mono ?_
  rintro en w1 ⟨rfl, hb1⟩
  rw [HP.out]
  have K1 := Lib.hid (Keeps.of_below hb1 [])
  clear hb1
  go_wp2_with fail
  refine (HMY.out _).mono ?_
  rintro en w2 ⟨rfl, hb2⟩
  rw [HQ.out]
  have hA : BigB (w1.alloc (.cells #[.int .i64 (p0 : Int), .int .i64 (p1 : Int), .int .i64 (p2 : Int), .int .i64 (p3 : Int), .int .i64 (p4 : Int), .int .i64 (p5 : Int)] 54)) w1.heap.size [p0, p1, p2, p3, p4, p5] := Blk.new w1 _ _
  have hA2 := Blk.below hA hb2 (Blk.lt hA)
  have HA2 := Lib.hid hA2
  have K2 := Lib.hid ((K1.out.alloc (.cells #[.int .i64 (p0 : Int), .int .i64 (p1 : Int), .int .i64 (p2 : Int), .int .i64 (p3 : Int), .int .i64 (p4 : Int), .int .i64 (p5 : Int)] 54)).trans (Keeps.of_below hb2 []) (by simp))
  have hl12 : w1.heap.size < w2.heap.size := by have := hb2.size; simp at this; omega
  obtain ⟨⟨d0, d1, d2⟩, d3, d4, d5⟩ := BigB.all hA2
  clear hA hA2 hb2
  go_wp2_with fail
  rw [← HP.out, ← HQ.out]
  refine (HMM.out _).mono ?_
  rintro en w3 ⟨rfl, hb3⟩
  rw [HR.out]
  have K3 := Lib.hid ((K2.out.alloc (.cells #[.int .i64 (q0 : Int), .int .i64 (q1 : Int), .int .i64 (q2 : Int), .int .i64 (q3 : Int), .int .i64 (q4 : Int), .int .i64 (q5 : Int)] 54)).trans (Keeps.of_below hb3 []) (by simp))
  clear hb3 d0 d1 d2 d3 d4 d5
  go_wp2_with fail
  have hC : BigB (w3.alloc (.cells #[.int .i64 (r0 : Int), .int .i64 (r1 : Int), .int .i64 (r2 : Int), .int .i64 (r3 : Int), .int .i64 (r4 : Int), .int .i64 (r5 : Int)] 54)) w3.heap.size [r0, r1, r2, r3, r4, r5] := Blk.new w3 _ _
  have K4 := Lib.hid (K3.out.alloc (.cells #[.int .i64 (r0 : Int), .int .i64 (r1 : Int), .int .i64 (r2 : Int), .int .i64 (r3 : Int), .int .i64 (r4 : Int), .int .i64 (r5 : Int)] 54))
  have hlw : w3.heap.size < (w3.alloc (.cells #[.int .i64 (r0 : Int), .int .i64 (r1 : Int), .int .i64 (r2 : Int), .int .i64 (r3 : Int), .int .i64 (r4 : Int), .int .i64 (r5 : Int)] 54)).heap.size := by simp
  generalize w3.alloc (.cells #[.int .i64 (r0 : Int), .int .i64 (r1 : Int), .int .i64 (r2 : Int), .int .i64 (r3 : Int), .int .i64 (r4 : Int), .int .i64 (r5 : Int)] 54) = w4 at *
  generalize w3.heap.size = gM at *
  have HC4 := Lib.hid hC
  have HLW := Lib.hid hlw
  clear hC hlw
  refine wp_region_ord ((0, false) :: (1, true) :: (2, true) :: (3, false) :: []) (fun w' => ((w'.cell? ⟨gM, 0, none⟩ = some (.int .i64 (r0 : Int)) ∧ w'.cell? ⟨gM, 1, none⟩ = some (.int .i64 (r1 : Int)) ∧ w'.cell? ⟨gM, 2, none⟩ = some (.int .i64 (r2 : Int))) ∧ (w'.cell? ⟨gM, 3, none⟩ = some (.int .i64 (r3 : Int)) ∧ w'.cell? ⟨gM, 4, none⟩ = some (.int .i64 (r4 : Int)) ∧ w'.cell? ⟨gM, 5, none⟩ = some (.int .i64 (r5 : Int)))) ∧ (BigB w' gM [r0, r1, r2, r3, r4, r5] ∧ Below w4.heap.size w4 w')) (by kernel_rfl) (by kernel_rfl) (by kernel_rfl) (by kernel_rfl) (fun _ _ d _ _ h => by cases d <;> exact h) ?_ (fun hHeld => ?_)
  · exact ⟨BigB.all (Blk.drewN HC4.out 1), Blk.drewN HC4.out 1, below_drewN (Below.refl _ _) 1⟩
  iterate 1 (first | (refine wpOrd_skip (by simp only [List.getElem?_toArray, List.getElem?_cons_succ, List.getElem?_cons_zero]; rfl) (by rfl) ?_; (simp only [Act.put, List.setIfInBounds_toArray, List.set_cons_zero, List.set_cons_succ])) | (refine wpOrd_take (v := ?_) (by simp only [List.getElem?_toArray, List.getElem?_cons_succ, List.getElem?_cons_zero]; rfl) (by rfl) ?_ ?_; rotate_left; (· (intro w hSw; (try dsimp only at hSw); go_simp; try with_reducible rfl)); (simp only [Act.put, List.setIfInBounds_toArray, List.set_cons_zero, List.set_cons_succ])))
  refine wpOrd_alone (by simp only [List.getElem?_toArray, List.getElem?_cons_succ, List.getElem?_cons_zero]; rfl) (fun K hK => ?_)
  go_simp
  (go_at_call 39; refine (HOF.out _).mono ?_; rintro e w' ⟨rfl, hb⟩)
  have ht := Blk.below hHeld.2.1 hb (Blk.lt hHeld.2.1)
  refine hK.out _ _ ⟨BigB.all ht, ht, hHeld.2.2.trans (hb.mono hHeld.2.2.size)⟩ (fun hHeld => ?_)
  clear hK K ht hb
  refine wpOrd_alone (by simp only [List.getElem?_toArray, List.getElem?_cons_succ, List.getElem?_cons_zero]; rfl) (fun K hK => ?_)
  go_simp
  rw [← HR.out]
  (go_at_call 38; refine (HCM.out _).mono ?_; rintro e w' ⟨rfl, hb⟩)
  have ht := Blk.below hHeld.2.1 hb (Blk.lt hHeld.2.1)
  refine hK.out _ _ ⟨BigB.all ht, ht, hHeld.2.2.trans (hb.mono hHeld.2.2.size)⟩ (fun hHeld => ?_)
  clear hK K ht hb
  iterate 1 (first | (refine wpOrd_skip (by simp only [List.getElem?_toArray, List.getElem?_cons_succ, List.getElem?_cons_zero]; rfl) (by rfl) ?_; (simp only [Act.put, List.setIfInBounds_toArray, List.set_cons_zero, List.set_cons_succ])) | (refine wpOrd_take (v := ?_) (by simp only [List.getElem?_toArray, List.getElem?_cons_succ, List.getElem?_cons_zero]; rfl) (by rfl) ?_ ?_; rotate_left; (· (intro w hSw; (try dsimp only at hSw); go_simp; try with_reducible rfl)); (simp only [Act.put, List.setIfInBounds_toArray, List.set_cons_zero, List.set_cons_succ])))
  refine wpOrd_done ?_
  have HB5 := Lib.hid hHeld.2.2
  clear hHeld
  have K5 := Lib.hid (K4.out.trans (Keeps.of_below HB5.out []) (by simp))
  have hblk : Blk w' b 28 #[.bool o] := H.out.keeps K5.out (by simp)
  have K6 : Hid (Keeps [b] w w') := Lib.hid (K5.out.mono (by simp))
  have HBK := Lib.hid hblk
  clear hblk
  have hgt : decide (0 < cmpI P 1152921504606846976) = decide (1152921504606846976 < P) := cmp_gt
  by_cases hbig : 1152921504606846976 < P
  · rw [decide_eq_true hbig] at hgt
    rw [hgt]
    clear hgt
    have HV := Lib.hid (HBIG.out hbig)
    obtain ⟨ev, hev⟩ : ∃ ev : Int, (if (sx != sy) = true then -1152921504606846976 else 1152921504606846976) = ev := ⟨_, rfl⟩
    have HEV := Lib.hid hev
    clear hev
    go_wp2_with fail
    refine (end_any b o (sx != sy) _ HBK.out).mono ?_
    rw [HEV.out]
    rintro en w6 ⟨rfl, rfl⟩
    go_wp2_with fail
    go_ret
    exact ref_n (by rw [HV.out.1]; exact HEV.out.symm) (by rw [HV.out.2, Bool.or_true]) (by have := HBK.out.set_ 0 (.bool true); simpa using this) (K6.out.setCell (.inl (by simp)) _)
  · rw [decide_eq_false hbig] at hgt
    rw [hgt]
    clear hgt
    obtain ⟨v1, v2, v3, v4⟩ := HSM.out (by omega)
    have HV1 := Lib.hid v1
    have HV2 := Lib.hid v2
    clear v1 v2
    have hw : IntKind.i64.wrap (x * y) = x * y := IntWalk.i64_in _ (by omega)
    go_wp2_with fail
    go_ret
    exact ref_n HV1.out.symm (by rw [HV2.out, Bool.or_false]) HBK.out K6.out
end Go.Proofs.Ytkokgdebahgbdaa
