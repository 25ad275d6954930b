/-
  What is divided, times the divisor, is no more than the product, and less by less than the divisor; the factors may be exchanged: the statement MoneyDivides. No condition.
-/
import Derived.Test.YtkokgdebahgbdaaMoneyC
import Derived.Test.YtkokgdebahgbdaaOpen
import Derived.Test.YtkokgdebahgbdaaRows
namespace Go.Proofs.Ytkokgdebahgbdaa
open Go.ChangeShapes Go.WideShapes Go.ChangeAt Go.RowKit

theorem mdF_comm (a b c : Int) : mdF b a c = mdF a b c := by
  unfold mdF
  rw [Int.mul_comm b a]
  by_cases h : a < 0 ∨ b < 0 ∨ c < 1
  · rw [if_pos h, if_pos (by omega)]
  · rw [if_neg h, if_neg (by omega)]
theorem mdF_ok {a b c : Int} (h : (mdF a b c).2 = 0) : 0 ≤ a ∧ 0 ≤ b ∧ 1 ≤ c ∧ (mdF a b c).1 = a * b / c := by
  unfold mdF at h ⊢
  by_cases h1 : a < 0 ∨ b < 0 ∨ c < 1
  · rw [if_pos h1] at h; simp at h
  · rw [if_neg h1] at h ⊢
    by_cases h2 : 1152921504606846976 < a * b / c
    · rw [if_pos h2] at h; simp at h
    · rw [if_neg h2]; exact ⟨by omega, by omega, by omega, rfl⟩

theorem moneyDivides_walk (w : World) (a : Int) (ha : -9223372036854775808 ≤ a ∧ a ≤ 9223372036854775807) (b : Int) (hb : -9223372036854775808 ≤ b ∧ b ≤ 9223372036854775807)
    (c : Int) (hc : -9223372036854775808 ≤ c ∧ c ≤ 9223372036854775807) :
    Calls Try.prog 5 #[.int .i64 a, .int .i64 b, .int .i64 c] w fun e w' => e = .returned (.bool true) ∧ Below w.heap.size w w' := by
  have hbd := mdF_bound a b c
  have hok := fun h => mdF_ok (a := a) (b := b) (c := c) h
  have HC := Lib.hid (mdF_comm a b c)
  have HA := Lib.hid ha
  have HB := Lib.hid hb
  have HCC := Lib.hid hc
  generalize hm : mdF a b c = m at *
  obtain ⟨v, e⟩ := m
  have HM := Lib.hid hm
  have HOK := Lib.hid hok
  simp only at hbd
  obtain ⟨d1, d2, d3, d4⟩ := hbd
  clear hm hok ha hb hc
  by_cases he : e = 0
  · subst he
    obtain ⟨a0, b0, c1, hv⟩ := HOK.out rfl
    simp only at hv
    by_cases hbig : 1073741824 < a ∨ 1073741824 < b ∨ 1152921504606846976 < c
    · have HBIG := Lib.hid hbig
      clear hbig hv
      by_cases q1 : 1073741824 < a
      all_goals first | skip | skip
      · go_enter Try.func5, Try.ntmps5
        go_wp2_with fail
        refine (mulDiv_any a b c HA.out HB.out HCC.out w).mono ?_
        rintro en w1 ⟨rfl, hb1⟩
        rw [HM.out]
        go_wp2_with fail
        refine (mulDiv_any b a c HB.out HA.out HCC.out w1).mono ?_
        rintro en w2 ⟨rfl, hb2⟩
        rw [HC.out]
        go_wp2_with fail
        refine (alive_any w2).mono ?_
        rintro en w3 ⟨rfl, hb3⟩
        have h12 := hb1.trans (hb2.mono hb1.size)
        have h13 := h12.trans (hb3.mono h12.size)
        go_wp2_with fail
        go_ret
        exact ⟨rfl, h13⟩
      · by_cases q2 : 1073741824 < b
        · go_enter Try.func5, Try.ntmps5
          go_wp2_with fail
          refine (mulDiv_any a b c HA.out HB.out HCC.out w).mono ?_
          rintro en w1 ⟨rfl, hb1⟩
          rw [HM.out]
          go_wp2_with fail
          refine (mulDiv_any b a c HB.out HA.out HCC.out w1).mono ?_
          rintro en w2 ⟨rfl, hb2⟩
          rw [HC.out]
          go_wp2_with fail
          refine (alive_any w2).mono ?_
          rintro en w3 ⟨rfl, hb3⟩
          have h12 := hb1.trans (hb2.mono hb1.size)
          have h13 := h12.trans (hb3.mono h12.size)
          go_wp2_with fail
          go_ret
          exact ⟨rfl, h13⟩
        · have q3 : 1152921504606846976 < c := by have := HBIG.out; omega
          go_enter Try.func5, Try.ntmps5
          go_wp2_with fail
          refine (mulDiv_any a b c HA.out HB.out HCC.out w).mono ?_
          rintro en w1 ⟨rfl, hb1⟩
          rw [HM.out]
          go_wp2_with fail
          refine (mulDiv_any b a c HB.out HA.out HCC.out w1).mono ?_
          rintro en w2 ⟨rfl, hb2⟩
          rw [HC.out]
          go_wp2_with fail
          refine (alive_any w2).mono ?_
          rintro en w3 ⟨rfl, hb3⟩
          have h12 := hb1.trans (hb2.mono hb1.size)
          have h13 := h12.trans (hb3.mono h12.size)
          go_wp2_with fail
          go_ret
          exact ⟨rfl, h13⟩
    · have q1 : a ≤ 1073741824 := by omega
      have q2 : b ≤ 1073741824 := by omega
      have q3 : c ≤ 1152921504606846976 := by omega
      have hab : a * b ≤ 1152921504606846976 := Int.le_trans (Int.mul_le_mul q1 q2 b0 (by omega)) (by decide)
      have hab0 : 0 ≤ a * b := Int.mul_nonneg a0 b0
      have hvc1 : v * c ≤ a * b := by rw [hv]; exact Int.ediv_mul_le _ (by omega)
      have hvc0 : 0 ≤ v * c := Int.mul_nonneg d1 (by omega)
      have hvc2 : a * b - v * c < c := by
        have := Int.lt_ediv_add_one_mul_self (a * b) (show 0 < c by omega)
        rw [← hv, Int.add_mul] at this
        omega
      have X1 : ∃ x : Int, wrap64 (v * c) = x ∧ x = v * c := ⟨v * c, IntWalk.wrap64_in _ (by omega), rfl⟩
      have X2 : ∃ y : Int, wrap64 (a * b) = y ∧ y = a * b := ⟨a * b, IntWalk.wrap64_in _ (by omega), rfl⟩
      obtain ⟨x, hx, hxv⟩ := X1
      obtain ⟨y, hy, hyv⟩ := X2
      rw [← hxv] at hvc0 hvc1 hvc2
      rw [← hyv] at hab hab0 hvc1 hvc2
      have HX := Lib.hid hx
      have HY := Lib.hid hy
      clear hx hy hxv hyv hv hbig
      go_enter Try.func5, Try.ntmps5
      go_wp2_with fail
      refine (mulDiv_any a b c HA.out HB.out HCC.out w).mono ?_
      rintro en w1 ⟨rfl, hb1⟩
      rw [HM.out]
      go_wp2_with fail
      refine (mulDiv_any b a c HB.out HA.out HCC.out w1).mono ?_
      rintro en w2 ⟨rfl, hb2⟩
      rw [HC.out]
      go_wp2_with fail
      refine (alive_any w2).mono ?_
      rintro en w3 ⟨rfl, hb3⟩
      have h12 := hb1.trans (hb2.mono hb1.size)
      have h13 := h12.trans (hb3.mono h12.size)
      go_wp2_with (first | rw [HX.out] | rw [HY.out])
      go_ret
      exact ⟨by simp, h13⟩
  · have he' : ((e : Int) == 0) = false := by simpa using he
    go_enter Try.func5, Try.ntmps5
    go_wp2_with fail
    refine (mulDiv_any a b c HA.out HB.out HCC.out w).mono ?_
    rintro en w1 ⟨rfl, hb1⟩
    rw [HM.out]
    go_wp2_with fail
    refine (mulDiv_any b a c HB.out HA.out HCC.out w1).mono ?_
    rintro en w2 ⟨rfl, hb2⟩
    rw [HC.out]
    go_wp2_with fail
    refine (alive_any w2).mono ?_
    rintro en w3 ⟨rfl, hb3⟩
    have h12 := hb1.trans (hb2.mono hb1.size)
    have h13 := h12.trans (hb3.mono h12.size)
    go_wp2_with fail
    go_ret
    exact ⟨rfl, h13⟩

/-! ### THE ROW's STEP -/
theorem moneyDivides_own : ownKnob Try.prog.godebug = none := by kernel_rfl
theorem moneyDivides_laidOut : laidOutB Try.prog = true := by kernel_rfl
set_option maxRecDepth 100000 in
theorem moneyDivides_lifted (os : Os) (started : os.Started) (H : Type) (enc : TypeId × Value → H) :
    ReturnsInHanded {} Try.checked os 5 .any (Rows.moneyDividesSpec.pre6 enc Try.prog Try.f5 Rows.moneyDividesRow.domain false) (Rows.moneyDividesSpec.post enc Try.prog Try.f5 false true false false) := by
  refine returnsInHanded_of_change (C := Try.checked) moneyDivides_own started (by kernel_rfl) Try.func5
    (ChangeSpec.witness6 (enc := enc) (C := Try.checked) false ⟨#[], #[.int .i64 0, .int .i64 0, .int .i64 0], []⟩ 8 (by kernel_rfl) (by kernel_rfl) (by kernel_rfl) (by kernel_rfl)) ?_
  intro W base args ds gs before hval0 hW hcnd _
  have hval : ∀ (j : Nat) t v, Try.f5.params[j]? = some t → args[j]? = some v → Value.okWide Try.prog W .any base t v := hval0
  have hW' := hW
  obtain ⟨p, q, hA0, hV, rfl, hfz, hnd⟩ := hW
  have hA : DataW.TrodAll enc Try.prog W 0 (fun _ => true) true Try.f5.params.toList args.toList ds p := hA0
  rw [Try.params5] at hA hval
  obtain ⟨v0, vs0, d0, ds0, p0, q0, hargs, rfl, rfl, h0, r_0⟩ := trodAll_cons hA
  obtain ⟨v1, vs1, d1, ds1, p1, q1, rfl, rfl, rfl, h1, r_1⟩ := trodAll_cons r_0
  obtain ⟨v2, vs2, d2, ds2, p2, q2, rfl, rfl, rfl, h2, r_2⟩ := trodAll_cons r_1
  obtain ⟨rfl, rfl, rfl⟩ := trodAll_nil r_2
  obtain rfl : args = #[v0, v1, v2] := by cases args; simp_all
  obtain ⟨a0, rfl, rfl, rfl, w0⟩ := open_int Try.underlying3 (hval 0 3 v0 rfl rfl) h0
  have b0 := bounds_of_wf w0
  obtain ⟨a1, rfl, rfl, rfl, w1⟩ := open_int Try.underlying3 (hval 1 3 v1 rfl rfl) h1
  have b1 := bounds_of_wf w1
  obtain ⟨a2, rfl, rfl, rfl, w2⟩ := open_int Try.underlying3 (hval 2 3 v2 rfl rfl) h2
  have b2 := bounds_of_wf w2
  clear hA0 hval0
  refine (moneyDivides_walk W a0 b0 a1 b1 a2 b2).mono fun e W' ⟨he, bel⟩ => ?_
  subst he
  exact ⟨_, rfl, post_true moneyDivides_laidOut (by kernel_rfl) rfl Try.underlying4 rfl hW' (by
    intro es he
    match es, he with
    | [e0, e1, e2], _ => rfl) bel⟩

theorem moneyDivides_over : Rows.moneyDividesRow.holds Try.pinned (OpenSpec.ofChange Rows.moneyDividesSpec) :=
  OpenClaim.holds_of_wide 5 Try.f5 rfl rfl rfl rfl rfl rfl rfl ⟨rfl, rfl, rfl, rfl, rfl⟩ rfl rfl rfl rfl rfl (by kernel_rfl) Try.func5 (by kernel_rfl)
    (of_decide_eq_true (by kernel_rfl)) (by unfold Func.isWrapper; first | (rw [if_pos (by decide +kernel)]; kernel_rfl) | (rw [if_neg (by decide +kernel)]; exact ⟨rfl, rfl⟩))
    (fun os started H enc _ => moneyDivides_lifted os started H enc)

theorem moneyDivides_holds : Rows.MoneyDividesSaid := moneyDivides_over
end Go.Proofs.Ytkokgdebahgbdaa
