/-
  Once a sum or a product came to an end it is kept in mind; within the ends it never is: the statement MoneyStays. No condition.
-/
import Derived.Test.YtkokgdebahgbdaaMoneyC
import Derived.Test.YtkokgdebahgbdaaOpen
import Derived.Test.YtkokgdebahgbdaaRows
namespace Go.Proofs.Ytkokgdebahgbdaa
open Go.ChangeShapes Go.WideShapes Go.ChangeAt Go.RowKit

theorem sumI_small (xs : List Int) (h : ∀ x ∈ xs, -1125899906842624 ≤ x ∧ x ≤ 1125899906842624) : -(1125899906842624 * (xs.length : Int)) ≤ sumI xs ∧ sumI xs ≤ 1125899906842624 * (xs.length : Int) := by
  induction xs with
  | nil => simp [sumI]
  | cons x xs ih =>
    obtain ⟨h0, h1⟩ := h x (by simp)
    have := ih fun y hy => h y (by simp [hy])
    simp only [sumI, List.length_cons]
    omega

set_option maxHeartbeats 2000000 in
set_option maxRecDepth 100000 in
theorem moneyStays_walk (w : World) (A : Option Addr) (n c : Nat) (xs : List Int) (h : Reads w w.heap.size 1 A n (ints xs)) (hl : n ≤ c) (hm : c ≤ maxLen) (hz : ∀ x ∈ xs, -9223372036854775808 ≤ x ∧ x ≤ 9223372036854775807)
    (x : Int) (hx : -9223372036854775808 ≤ x ∧ x ≤ 9223372036854775807) (y : Int) (hy : -9223372036854775808 ≤ y ∧ y ≤ 9223372036854775807) :
    Calls Try.prog 7 #[.slice A n c, .int .i64 x, .int .i64 y] w fun e w' => e = .returned (.bool true) ∧ Below w.heap.size w w' := by
  have hn : n ≤ 9223372036854775807 := by unfold maxLen at hm; omega
  have HX := Lib.hid hx
  have HY := Lib.hid hy
  have HZ := Lib.hid hz
  clear hm hx hy hz
  by_cases hbig : 100 < n
  · go_enter Try.func7, Try.ntmps7
    go_wp2_with fail
    refine (alive_any w).mono ?_
    rintro en w3 ⟨rfl, hb3⟩
    go_wp2_with fail
    go_ret
    exact ⟨rfl, hb3⟩
  · go_enter Try.func7, Try.ntmps7
    go_wp2_with fail
    have hA := (Blk.new w 26 #[.bool false]).alloc (.cells #[.bool false] 26)
    have hB := Blk.new (w.alloc (.cells #[.bool false] 26)) 26 #[.bool false]
    rw [show (w.alloc (.cells #[.bool false] 26)).heap.size = w.heap.size + 1 from by simp] at hB
    have hbl := ((Below.refl _ w).alloc (Nat.le_refl _) (.cells #[.bool false] 26)).alloc (by simp) (.cells #[.bool false] 26)
    obtain ⟨a, hae⟩ : ∃ a, a = w.heap.size := ⟨_, rfl⟩
    rw [← hae] at hA hB ⊢
    have ha0 : w.heap.size ≤ a := by omega
    clear hae
    generalize (w.alloc (.cells #[.bool false] 26)).alloc (.cells #[.bool false] 26) = w1 at *
    have h1 := h.below hbl
    have HA := Lib.hid hA
    have HB := Lib.hid hB
    have hlen := h.int_len
    have HL := Lib.hid hlen
    clear hA hB hlen
    go_loop [9, 10] (fun s i => ∃ k : Nat, k ≤ n ∧ i = .int .i64 k ∧ s = .int .i64 (sumI (xs.take k)) ∧ (∀ x ∈ xs.take k, -1125899906842624 ≤ x ∧ x ≤ 1125899906842624)) (fun _ i => n - (intOf i).toNat)
    case atStart => exact ⟨0, Nat.zero_le _, rfl, rfl, by simp⟩
    case round =>
      obtain ⟨k, hk, rfl, rfl, hall⟩ := hrel
      have hsb := sumI_small _ hall
      have htl : (xs.take k).length = k := by rw [List.length_take]; have := HL.out; omega
      rw [htl] at hsb
      obtain ⟨s1, s2⟩ := hsb
      have HALL := Lib.hid hall
      clear hall htl
      by_cases hlt : k < n
      · obtain ⟨ad, z, rfl, had, hz1, hc⟩ := h1.int hlt
        have htk : xs.take (k + 1) = xs.take k ++ [z] := by rw [List.take_add_one, hz1]; rfl
        have hsum : sumI (xs.take (k + 1)) = sumI (xs.take k) + z := by rw [htk, sumI_append]; simp [sumI]
        have HTK := Lib.hid htk
        have HSUM := Lib.hid hsum
        clear htk hsum hz1
        generalize sumI (xs.take k) = sk at *
        by_cases g1 : 1125899906842624 < z
        · go_wp2_with fail
          refine (alive_any w1).mono ?_
          rintro en w3 ⟨rfl, hb3⟩
          go_wp2_with fail
          go_ret
          exact ⟨rfl, hbl.trans (hb3.mono hbl.size)⟩
        · by_cases g2 : z < -1125899906842624
          · go_wp2_with fail
            refine (alive_any w1).mono ?_
            rintro en w3 ⟨rfl, hb3⟩
            go_wp2_with fail
            go_ret
            exact ⟨rfl, hbl.trans (hb3.mono hbl.size)⟩
          · go_wp2_with fail
            go_round
            case rel =>
              refine ⟨k + 1, by omega, by go_num, by rw [HSUM.out], ?_⟩
              intro u hu
              rw [HTK.out, List.mem_append] at hu
              rcases hu with hu | hu
              · exact HALL.out u hu
              · simp at hu; subst hu; omega
            case measure => simp [intOf]; omega
      · have e' : xs.take k = xs := by rw [show k = n by omega, ← HL.out, List.take_length]
        rw [e'] at s1 s2 ⊢
        clear e' HALL
        have hin : clampO (sumI xs) = false := by simp [clampO]; omega
        have hval : clampV (sumI xs) = sumI xs := by unfold clampV; rw [if_neg (by omega), if_neg (by omega)]
        have HIN := Lib.hid hin
        have HVAL := Lib.hid hval
        clear hin hval
        have hk2 : k ≤ 100 := by omega
        go_wp2_with fail
        refine (add_in _ A n c xs w1 _ h1 HZ.out (by omega) HIN.out).mono ?_
        rintro en w4 ⟨rfl, rfl⟩
        rw [HVAL.out]
        have ca := HA.out.cell 0
        simp at ca
        go_wp2_with fail
        refine (add_any (a + 1) false _ 2 2 [1152921504606846976, 1] _ (HB.out.alloc _) (w1.heap.size + 1) ?_ (by intro x hx; simp at hx; unfold IsI64; omega) (by omega)).mono ?_
        · have := (Blk.new w1 3 #[.int .i64 1152921504606846976, .int .i64 1]).reads (n := 2) rfl
          simpa [ints] using this
        rintro en w5 ⟨rfl, hs5⟩
        rw [show clampV (sumI [1152921504606846976, 1]) = 1152921504606846976 from by decide]
        rw [show clampO (sumI [1152921504606846976, 1]) = true from by decide] at hs5
        have hB5 := hs5.blk (HB.out.alloc _)
        have hA5 := (HA.out.alloc (.cells #[.int .i64 1152921504606846976, .int .i64 1] 3)).grown hs5.grown (by simp)
        have hbl5 := below_only (hbl.alloc hbl.size (.cells #[.int .i64 1152921504606846976, .int .i64 1] 3)) (by simp; have := hbl.size; omega) hs5.grown (by omega)
        simp only [Bool.false_or] at hB5
        have HA5 := Lib.hid hA5
        have HB5 := Lib.hid hB5
        have cb5 := hB5.cell 0
        simp at cb5
        clear hs5 hA5 hB5 ca
        go_wp2_with fail
        refine (add_in _ A n c xs w5 _ (h.below hbl5) HZ.out (by omega) HIN.out).mono ?_
        rintro en w6 ⟨rfl, rfl⟩
        rw [HVAL.out]
        have HA7 := HA5
        have HB7 := HB5
        have hbl7 := hbl5
        clear cb5
        go_wp2_with fail
        by_cases hmul : x.natAbs * y.natAbs ≤ 1152921504606846976
        · have hmv : wrap64 (x * y) = x * y := IntWalk.wrap64_in _ (by have := natAbs_mul_or x y; omega)
          have hprod : -1152921504606846976 ≤ x * y ∧ x * y ≤ 1152921504606846976 := by have := natAbs_mul_or x y; omega
          obtain ⟨p1, p2⟩ := hprod
          have HMV := Lib.hid hmv
          have HMU := Lib.hid hmul
          clear hmul hmv
          refine (mul_in _ x y HX.out HY.out HMU.out _).mono ?_
          rintro en w8 ⟨rfl, rfl⟩
          go_wp2_with fail
          refine (alive_any w5).mono ?_
          rintro en w9 ⟨rfl, hb9⟩
          have hA9 := HA7.out.below hb9 HA7.out.lt
          have hB9 := HB7.out.below hb9 HB7.out.lt
          have ca := hA9.cell 0
          have cb := hB9.cell 0
          simp at ca cb
          clear hA9 hB9
          go_wp2_with (first | rw [HMV.out])
          go_ret
          exact ⟨by simp, hbl7.trans (hb9.mono hbl7.size)⟩
        · have hmv : -1152921504606846976 ≤ mulV x y ∧ mulV x y ≤ 1152921504606846976 := by
            unfold mulV
            repeat' split
            all_goals omega
          obtain ⟨p1, p2⟩ := hmv
          have HMU := Lib.hid (show 1152921504606846976 < x.natAbs * y.natAbs from by omega)
          clear hmul
          refine (mul_beyond _ x y HX.out HY.out HMU.out _ (fun w' => w5.setCell ⟨a, 0, none⟩ (.bool true) = w') (fun below => over_set _ false below _ HA7.out)).mono ?_
          rintro en w8 ⟨rfl, hw8⟩
          have hA8 := hw8 ▸ HA7.out.set_ 0 (.bool true)
          have hB8 := hw8 ▸ HB7.out.far (p := ⟨a, 0, none⟩) (by simp) (.bool true)
          have hbl8 : Below w.heap.size w w8 := hw8 ▸ hbl7.setCell (p := ⟨a, 0, none⟩) ha0 (.bool true)
          have HA8 := Lib.hid hA8
          have HB8 := Lib.hid hB8
          generalize mulV x y = mv at *
          clear hw8 hA8 hB8
          go_wp2_with fail
          refine (alive_any w8).mono ?_
          rintro en w9 ⟨rfl, hb9⟩
          have hA9 := HA8.out.below hb9 HA8.out.lt
          have hB9 := HB8.out.below hb9 HB8.out.lt
          have ca := hA9.cell 0
          have cb := hB9.cell 0
          simp at ca cb
          clear hA9 hB9
          go_wp2_with fail
          go_ret
          exact ⟨by simp, hbl8.trans (hb9.mono hbl8.size)⟩

/-! ### THE ROW's STEP -/
theorem moneyStays_own : ownKnob Try.prog.godebug = none := by kernel_rfl
theorem moneyStays_laidOut : laidOutB Try.prog = true := by kernel_rfl
set_option maxRecDepth 100000 in
theorem moneyStays_lifted (os : Os) (started : os.Started) (H : Type) (enc : TypeId × Value → H) :
    ReturnsInHanded {} Try.checked os 7 .any (Rows.moneyStaysSpec.pre6 enc Try.prog Try.f7 Rows.moneyStaysRow.domain false) (Rows.moneyStaysSpec.post enc Try.prog Try.f7 false true false false) := by
  refine returnsInHanded_of_change (C := Try.checked) moneyStays_own started (by kernel_rfl) Try.func7
    (ChangeSpec.witness6 (enc := enc) (C := Try.checked) false ⟨#[], #[.slice none 0 0, .int .i64 0, .int .i64 0], []⟩ 8 (by kernel_rfl) (by kernel_rfl) (by kernel_rfl) (by kernel_rfl)) ?_
  intro W base args ds gs before hval0 hW hcnd _
  have hval : ∀ (j : Nat) t v, Try.f7.params[j]? = some t → args[j]? = some v → Value.okWide Try.prog W .any base t v := hval0
  have hW' := hW
  obtain ⟨p, q, hA0, hV, rfl, hfz, hnd⟩ := hW
  have hA : DataW.TrodAll enc Try.prog W 0 (fun _ => true) true Try.f7.params.toList args.toList ds p := hA0
  rw [Try.params7] at hA hval
  obtain ⟨v0, vs0, d0, ds0, p0, q0, hargs, rfl, rfl, h0, r_0⟩ := trodAll_cons hA
  obtain ⟨v1, vs1, d1, ds1, p1, q1, rfl, rfl, rfl, h1, r_1⟩ := trodAll_cons r_0
  obtain ⟨v2, vs2, d2, ds2, p2, q2, rfl, rfl, rfl, h2, r_2⟩ := trodAll_cons r_1
  obtain ⟨rfl, rfl, rfl⟩ := trodAll_nil r_2
  obtain rfl : args = #[v0, v1, v2] := by cases args; simp_all
  obtain ⟨A0, n0, c0, x0, rfl, r0, l0, m0, z0⟩ := open_slice_ints Try.underlying22 Try.underlying3 (by kernel_rfl) (hval 0 22 v0 rfl rfl) h0
  obtain ⟨a1, rfl, rfl, rfl, w1⟩ := open_int Try.underlying3 (hval 1 3 v1 rfl rfl) h1
  have b1 := bounds_of_wf w1
  obtain ⟨a2, rfl, rfl, rfl, w2⟩ := open_int Try.underlying3 (hval 2 3 v2 rfl rfl) h2
  have b2 := bounds_of_wf w2
  clear hA0 hval0
  refine (moneyStays_walk W A0 n0 c0 x0 r0 l0 m0 z0 a1 b1 a2 b2).mono fun e W' ⟨he, bel⟩ => ?_
  subst he
  exact ⟨_, rfl, post_true moneyStays_laidOut (by kernel_rfl) rfl Try.underlying4 rfl hW' (by
    intro es he
    match es, he with
    | [e0, e1, e2], _ => rfl) bel⟩

theorem moneyStays_over : Rows.moneyStaysRow.holds Try.pinned (OpenSpec.ofChange Rows.moneyStaysSpec) :=
  OpenClaim.holds_of_wide 7 Try.f7 rfl rfl rfl rfl rfl rfl rfl ⟨rfl, rfl, rfl, rfl, rfl⟩ rfl rfl rfl rfl rfl (by kernel_rfl) Try.func7 (by kernel_rfl)
    (of_decide_eq_true (by kernel_rfl)) (by unfold Func.isWrapper; first | (rw [if_pos (by decide +kernel)]; kernel_rfl) | (rw [if_neg (by decide +kernel)]; exact ⟨rfl, rfl⟩))
    (fun os started H enc _ => moneyStays_lifted os started H enc)

theorem moneyStays_holds : Rows.MoneyStaysSaid := moneyStays_over
end Go.Proofs.Ytkokgdebahgbdaa
