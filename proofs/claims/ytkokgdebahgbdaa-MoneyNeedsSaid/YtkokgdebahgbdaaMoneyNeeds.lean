/-
  What is needed is worth enough, one fewer is not; what is worth so much needs no more: the statement MoneyNeeds. No condition.
-/
import Derived.Test.YtkokgdebahgbdaaMoneyC
import Derived.Test.YtkokgdebahgbdaaMoneyNeed
import Derived.Test.YtkokgdebahgbdaaOpen
import Derived.Test.YtkokgdebahgbdaaRows
namespace Go.Proofs.Ytkokgdebahgbdaa
open Go.ChangeShapes Go.WideShapes Go.ChangeAt Go.RowKit

theorem moneyNeeds_walk (w : World) (v : Int) (hv : -9223372036854775808 ≤ v ∧ v ≤ 9223372036854775807) (p : Int) (hp : -9223372036854775808 ≤ p ∧ p ≤ 9223372036854775807)
    (c : Int) (hc : -9223372036854775808 ≤ c ∧ c ≤ 9223372036854775807) :
    Calls Try.prog 11 #[.int .i64 v, .int .i64 p, .int .i64 c] w fun e w' => e = .returned (.bool true) ∧ Below w.heap.size w w' := by
  have HP := Lib.hid hp
  have HC := Lib.hid hc
  have HV := Lib.hid hv
  clear hp hc hv
  go_enter Try.func11, Try.ntmps11
  go_wp2_with fail
  refine (need_any v p c HV.out HP.out HC.out w).mono ?_
  rintro en w1 ⟨⟨q, e⟩, hN, rfl, hb1⟩
  rcases hN with ⟨hw, hr⟩ | ⟨hw, ⟨he, q0, q1, q2, q3⟩ | ⟨hr, hno⟩⟩
  · simp only [Prod.mk.injEq] at hr
    obtain ⟨rfl, rfl⟩ := hr
    clear hw
    go_wp2_with fail
    refine (alive_any w1).mono ?_
    rintro en w2 ⟨rfl, hb2⟩
    go_wp2_with fail
    go_ret
    exact ⟨rfl, hb1.trans (hb2.mono hb1.size)⟩
  · simp only at he q0 q1 q2 q3
    subst he
    have hr : 0 ≤ v ∧ 0 ≤ p ∧ 0 ≤ c ∧ c ≤ 10000 := by simp [wrongF] at hw; omega
    obtain ⟨r1, r2, r3, r4⟩ := hr
    obtain ⟨t0, t1, t2⟩ := topQ_bound r2
    have hqi : IsI64 q := by unfold IsI64; omega
    obtain ⟨k1, k2, k3⟩ := worthF_in (q := q) (p := p) (c := c) q0 r2 r3 r4 (t2 q q0 q1)
    have HK1 := Lib.hid k1
    have HQI := Lib.hid hqi
    have HQ3 := Lib.hid q3
    have HT2 := Lib.hid t2
    generalize hwq : worthQ q p c = wq at *
    have HWQ := Lib.hid hwq
    clear k1 hqi q3 t2 hw hwq
    by_cases hz : q = 0
    · subst hz
      have hv0 : v ≤ 0 := by
        have : worthQ 0 p c = 0 := by simp [worthQ]
        have := HWQ.out
        omega
      go_wp2_with fail
      refine (worth_any 0 p c HQI.out HP.out HC.out w1).mono ?_
      rw [HK1.out]
      rintro en w2 ⟨rfl, hb2⟩
      go_wp2_with fail
      refine (alive_any w2).mono ?_
      rintro en w3 ⟨rfl, hb3⟩
      have h12 := hb1.trans (hb2.mono hb1.size)
      go_wp2_with fail
      go_ret
      exact ⟨by simp, h12.trans (hb3.mono h12.size)⟩
    · have hq1 : 1 ≤ q := by omega
      have hz' : ((q : Int) == 0) = false := by simpa using hz
      obtain ⟨j1, j2, j3⟩ := worthF_in (q := q - 1) (p := p) (c := c) (by omega) r2 r3 r4 (HT2.out (q - 1) (by omega) (by omega))
      have jlt := HQ3.out (q - 1) (by omega) (by omega)
      have HJ1 := Lib.hid j1
      have hq1i : IsI64 (q - 1) := by unfold IsI64; omega
      have HQ1I := Lib.hid hq1i
      have hwi : IsI64 wq := by unfold IsI64; omega
      have HWI := Lib.hid hwi
      generalize worthQ (q - 1) p c = wq1 at *
      clear j1 hq1i hwi
      go_wp2_with fail
      refine (worth_any q p c HQI.out HP.out HC.out w1).mono ?_
      rw [HK1.out]
      rintro en w2 ⟨rfl, hb2⟩
      go_wp2_with fail
      refine (worth_any (q - 1) p c HQ1I.out HP.out HC.out w2).mono ?_
      rw [HJ1.out]
      rintro en w3 ⟨rfl, hb3⟩
      go_wp2_with fail
      refine (need_any wq p c HWI.out HP.out HC.out w3).mono ?_
      rintro en w4 ⟨⟨n, h⟩, hN, rfl, hb4⟩
      have hn : h = 0 ∧ n ≤ q := by
        rcases hN with ⟨hw, _⟩ | ⟨_, ⟨he, n0, n1, n2, n3⟩ | ⟨_, hno⟩⟩
        · exfalso; simp [wrongF] at hw; omega
        · simp only at he n0 n1 n2 n3
          refine ⟨he, ?_⟩
          rcases Int.lt_or_le q n with hlt | hle
          · have := n3 q q0 hlt
            rw [HWQ.out] at this
            omega
          · exact hle
        · have := hno q q0 q1
          rw [HWQ.out] at this
          omega
      obtain ⟨rfl, hnq⟩ := hn
      clear hN
      go_wp2_with fail
      refine (alive_any w4).mono ?_
      rintro en w5 ⟨rfl, hb5⟩
      have h12 := hb1.trans (hb2.mono hb1.size)
      have h13 := h12.trans (hb3.mono h12.size)
      have h14 := h13.trans (hb4.mono h13.size)
      go_wp2_with fail
      go_ret
      exact ⟨by simp, h14.trans (hb5.mono h14.size)⟩
  · simp only [Prod.mk.injEq] at hr
    obtain ⟨rfl, rfl⟩ := hr
    clear hw hno
    go_wp2_with fail
    refine (alive_any w1).mono ?_
    rintro en w2 ⟨rfl, hb2⟩
    go_wp2_with fail
    go_ret
    exact ⟨rfl, hb1.trans (hb2.mono hb1.size)⟩

/-! ### THE ROW's STEP -/
theorem moneyNeeds_own : ownKnob Try.prog.godebug = none := by kernel_rfl
theorem moneyNeeds_laidOut : laidOutB Try.prog = true := by kernel_rfl
set_option maxRecDepth 100000 in
theorem moneyNeeds_lifted (os : Os) (started : os.Started) (H : Type) (enc : TypeId × Value → H) :
    ReturnsInHanded {} Try.checked os 11 .any (Rows.moneyNeedsSpec.pre6 enc Try.prog Try.f11 Rows.moneyNeedsRow.domain false) (Rows.moneyNeedsSpec.post enc Try.prog Try.f11 false true false false) := by
  refine returnsInHanded_of_change (C := Try.checked) moneyNeeds_own started (by kernel_rfl) Try.func11
    (ChangeSpec.witness6 (enc := enc) (C := Try.checked) false ⟨#[], #[.int .i64 0, .int .i64 0, .int .i64 0], []⟩ 8 (by kernel_rfl) (by kernel_rfl) (by kernel_rfl) (by kernel_rfl)) ?_
  intro W base args ds gs before hval0 hW hcnd _
  have hval : ∀ (j : Nat) t v, Try.f11.params[j]? = some t → args[j]? = some v → Value.okWide Try.prog W .any base t v := hval0
  have hW' := hW
  obtain ⟨p, q, hA0, hV, rfl, hfz, hnd⟩ := hW
  have hA : DataW.TrodAll enc Try.prog W 0 (fun _ => true) true Try.f11.params.toList args.toList ds p := hA0
  rw [Try.params11] at hA hval
  obtain ⟨v0, vs0, d0, ds0, p0, q0, hargs, rfl, rfl, h0, r_0⟩ := trodAll_cons hA
  obtain ⟨v1, vs1, d1, ds1, p1, q1, rfl, rfl, rfl, h1, r_1⟩ := trodAll_cons r_0
  obtain ⟨v2, vs2, d2, ds2, p2, q2, rfl, rfl, rfl, h2, r_2⟩ := trodAll_cons r_1
  obtain ⟨rfl, rfl, rfl⟩ := trodAll_nil r_2
  obtain rfl : args = #[v0, v1, v2] := by cases args; simp_all
  obtain ⟨a0, rfl, rfl, rfl, w0⟩ := open_int Try.underlying3 (hval 0 3 v0 rfl rfl) h0
  have b0 := bounds_of_wf w0
  obtain ⟨a1, rfl, rfl, rfl, w1⟩ := open_int Try.underlying3 (hval 1 3 v1 rfl rfl) h1
  have b1 := bounds_of_wf w1
  obtain ⟨a2, rfl, rfl, rfl, w2⟩ := open_int Try.underlying3 (hval 2 3 v2 rfl rfl) h2
  have b2 := bounds_of_wf w2
  clear hA0 hval0
  refine (moneyNeeds_walk W a0 b0 a1 b1 a2 b2).mono fun e W' ⟨he, bel⟩ => ?_
  subst he
  exact ⟨_, rfl, post_true moneyNeeds_laidOut (by kernel_rfl) rfl Try.underlying4 rfl hW' (by
    intro es he
    match es, he with
    | [e0, e1, e2], _ => rfl) bel⟩

theorem moneyNeeds_over : Rows.moneyNeedsRow.holds Try.pinned (OpenSpec.ofChange Rows.moneyNeedsSpec) :=
  OpenClaim.holds_of_wide 11 Try.f11 rfl rfl rfl rfl rfl rfl rfl ⟨rfl, rfl, rfl, rfl, rfl⟩ rfl rfl rfl rfl rfl (by kernel_rfl) Try.func11 (by kernel_rfl)
    (of_decide_eq_true (by kernel_rfl)) (by unfold Func.isWrapper; first | (rw [if_pos (by decide +kernel)]; kernel_rfl) | (rw [if_neg (by decide +kernel)]; exact ⟨rfl, rfl⟩))
    (fun os started H enc _ => moneyNeeds_lifted os started H enc)

theorem moneyNeeds_holds : Rows.MoneyNeedsSaid := moneyNeeds_over
end Go.Proofs.Ytkokgdebahgbdaa
