/-
  More is worth no less, at a higher price no less, at a greater cut no more; cut wholly it is worth nothing: the statement MoneyWorths. No condition.
-/
import Derived.Test.YtkokgdebahgbdaaMoneyC
import Derived.Test.YtkokgdebahgbdaaMoneyNeed
import Derived.Test.YtkokgdebahgbdaaOpen
import Derived.Test.YtkokgdebahgbdaaRows
namespace Go.Proofs.Ytkokgdebahgbdaa
open Go.ChangeShapes Go.WideShapes Go.ChangeAt Go.RowKit

set_option maxHeartbeats 1000000 in
theorem moneyWorths_walk (w : World) (q : Int) (hq : -9223372036854775808 ≤ q ∧ q ≤ 9223372036854775807) (p : Int) (hp : -9223372036854775808 ≤ p ∧ p ≤ 9223372036854775807) (c : Int) (hc : -9223372036854775808 ≤ c ∧ c ≤ 9223372036854775807) (m : Int) (hm : -9223372036854775808 ≤ m ∧ m ≤ 9223372036854775807) :
    Calls Try.prog 6 #[.int .i64 q, .int .i64 p, .int .i64 c, .int .i64 m] w fun e w' => e = .returned (.bool true) ∧ Below w.heap.size w w' := by
  have HQ := Lib.hid hq
  have HP := Lib.hid hp
  have HC := Lib.hid hc
  clear hq hp hc
  by_cases g0 : q < 0
  · go_enter Try.func6, Try.ntmps6
    go_wp2_with fail
    refine (alive_any w).mono ?_
    rintro en w2 ⟨rfl, hb2⟩
    go_wp2_with fail
    go_ret
    exact ⟨rfl, hb2⟩
  · by_cases g1 : p < 0
    · go_enter Try.func6, Try.ntmps6
      go_wp2_with fail
      refine (alive_any w).mono ?_
      rintro en w2 ⟨rfl, hb2⟩
      go_wp2_with fail
      go_ret
      exact ⟨rfl, hb2⟩
    · by_cases g2 : c < 0
      · go_enter Try.func6, Try.ntmps6
        go_wp2_with fail
        refine (alive_any w).mono ?_
        rintro en w2 ⟨rfl, hb2⟩
        go_wp2_with fail
        go_ret
        exact ⟨rfl, hb2⟩
      · by_cases g3 : 10000 < c
        · go_enter Try.func6, Try.ntmps6
          go_wp2_with fail
          refine (alive_any w).mono ?_
          rintro en w2 ⟨rfl, hb2⟩
          go_wp2_with fail
          go_ret
          exact ⟨rfl, hb2⟩
        · by_cases g4 : m < 0
          · go_enter Try.func6, Try.ntmps6
            go_wp2_with fail
            refine (alive_any w).mono ?_
            rintro en w2 ⟨rfl, hb2⟩
            go_wp2_with fail
            go_ret
            exact ⟨rfl, hb2⟩
          · by_cases g5 : 268435456 < q
            · go_enter Try.func6, Try.ntmps6
              go_wp2_with fail
              refine (alive_any w).mono ?_
              rintro en w2 ⟨rfl, hb2⟩
              go_wp2_with fail
              go_ret
              exact ⟨rfl, hb2⟩
            · by_cases g6 : 268435456 < p
              · go_enter Try.func6, Try.ntmps6
                go_wp2_with fail
                refine (alive_any w).mono ?_
                rintro en w2 ⟨rfl, hb2⟩
                go_wp2_with fail
                go_ret
                exact ⟨rfl, hb2⟩
              · by_cases g7 : 268435456 < m
                · go_enter Try.func6, Try.ntmps6
                  go_wp2_with fail
                  refine (alive_any w).mono ?_
                  rintro en w2 ⟨rfl, hb2⟩
                  go_wp2_with fail
                  go_ret
                  exact ⟨rfl, hb2⟩
                · have q0 : 0 ≤ q := by omega
                  have p0 : 0 ≤ p := by omega
                  have c0 : 0 ≤ c := by omega
                  have c1 : c ≤ 10000 := by omega
                  have m0 : 0 ≤ m := by omega
                  have q1 : q ≤ 268435456 := by omega
                  have p1 : p ≤ 268435456 := by omega
                  have m1 : m ≤ 268435456 := by omega
                  have hb1 : ∀ a b : Int, 0 ≤ a → 0 ≤ b → a ≤ 536870912 → b ≤ 536870912 → a * b ≤ 1152921504606846976 := fun a b a0 b0 a1 b1 => Int.le_trans (Int.mul_le_mul a1 b1 b0 (by omega)) (by decide)
                  obtain ⟨k1, k2, k3⟩ := worthF_in (q := q) (p := p) (c := c) q0 p0 c0 c1 (hb1 q p q0 p0 (by omega) (by omega))
                  obtain ⟨j1, j2, j3⟩ := worthF_in (q := q + m) (p := p) (c := c) (by omega) p0 c0 c1 (hb1 _ p (by omega) p0 (by omega) (by omega))
                  obtain ⟨i1, i2, i3⟩ := worthF_in (q := q) (p := p + m) (c := c) q0 (by omega) c0 c1 (hb1 q _ q0 (by omega) (by omega) (by omega))
                  obtain ⟨d1, d2, d3⟩ := worthF_in (q := q) (p := p) (c := 10000) q0 p0 (by omega) (by omega) (hb1 q p q0 p0 (by omega) (by omega))
                  obtain ⟨x1, x2, x3⟩ := worthF_in (q := q) (p := p) (c := 0) q0 p0 (by omega) (by omega) (hb1 q p q0 p0 (by omega) (by omega))
                  have hab := worthQ_mono (q := q) (q' := q + m) (p := p) (c := c) (by omega) p0 c1
                  have hac : worthQ q p c ≤ worthQ q (p + m) c := by
                    unfold worthQ
                    apply Int.ediv_le_ediv (by omega)
                    exact Int.mul_le_mul_of_nonneg_right (Int.mul_le_mul_of_nonneg_left (by omega) q0) (by omega)
                  have hd0 : worthQ q p 10000 = 0 := by simp [worthQ]
                  have hxx : worthQ q p 0 = q * p := by
                    unfold worthQ
                    rw [show (10000 - 0 : Int) = 10000 from rfl]
                    exact Int.mul_ediv_cancel _ (by omega)
                  have hax : worthQ q p c ≤ worthQ q p 0 := by
                    unfold worthQ
                    apply Int.ediv_le_ediv (by omega)
                    exact Int.mul_le_mul_of_nonneg_left (by omega) (Int.mul_nonneg q0 p0)
                  rw [hd0] at d1
                  have hqm : IsI64 (q + m) := by unfold IsI64; omega
                  have hpm : IsI64 (p + m) := by unfold IsI64; omega
                  have hqp : wrap64 (q * p) = worthQ q p 0 := by rw [hxx] at x2 x3 ⊢; exact IntWalk.wrap64_in _ (by omega)
                  have K := Lib.hid k1
                  have J := Lib.hid j1
                  have I := Lib.hid i1
                  have D := Lib.hid d1
                  have X := Lib.hid x1
                  have QM := Lib.hid hqm
                  have PM := Lib.hid hpm
                  have QP := Lib.hid hqp
                  generalize worthQ q p c = va at *
                  generalize worthQ (q + m) p c = vb at *
                  generalize worthQ q (p + m) c = vc at *
                  generalize worthQ q p 0 = vx at *
                  clear k1 j1 i1 d1 x1 hqm hpm hqp hd0 hxx hb1
                  go_enter Try.func6, Try.ntmps6
                  go_wp2_with fail
                  refine (worth_any q p c HQ.out HP.out HC.out w).mono ?_
                  rw [K.out]
                  rintro en w1 ⟨rfl, hb1⟩
                  go_wp2_with fail
                  refine (worth_any (q + m) p c QM.out HP.out HC.out w1).mono ?_
                  rw [J.out]
                  rintro en w2 ⟨rfl, hb2⟩
                  go_wp2_with fail
                  refine (worth_any q (p + m) c HQ.out PM.out HC.out w2).mono ?_
                  rw [I.out]
                  rintro en w3 ⟨rfl, hb3⟩
                  go_wp2_with fail
                  refine (worth_any q p 10000 HQ.out HP.out (by unfold IsI64; omega) w3).mono ?_
                  rw [D.out]
                  rintro en w4 ⟨rfl, hb4⟩
                  go_wp2_with fail
                  refine (worth_any q p 0 HQ.out HP.out (by unfold IsI64; omega) w4).mono ?_
                  rw [X.out]
                  rintro en w5 ⟨rfl, hb5⟩
                  go_wp2_with fail
                  refine (alive_any w5).mono ?_
                  rintro en w6 ⟨rfl, hb6⟩
                  have h12 := hb1.trans (hb2.mono hb1.size)
                  have h13 := h12.trans (hb3.mono h12.size)
                  have h14 := h13.trans (hb4.mono h13.size)
                  have h15 := h14.trans (hb5.mono h14.size)
                  go_wp2_with (first | rw [QP.out])
                  go_ret
                  exact ⟨by simp, h15.trans (hb6.mono h15.size)⟩

/-! ### THE ROW's STEP -/
theorem moneyWorths_own : ownKnob Try.prog.godebug = none := by kernel_rfl
theorem moneyWorths_laidOut : laidOutB Try.prog = true := by kernel_rfl
set_option maxRecDepth 100000 in
theorem moneyWorths_lifted (os : Os) (started : os.Started) (H : Type) (enc : TypeId × Value → H) :
    ReturnsInHanded {} Try.checked os 6 .any (Rows.moneyWorthsSpec.pre6 enc Try.prog Try.f6 Rows.moneyWorthsRow.domain false) (Rows.moneyWorthsSpec.post enc Try.prog Try.f6 false true false false) := by
  refine returnsInHanded_of_change (C := Try.checked) moneyWorths_own started (by kernel_rfl) Try.func6
    (ChangeSpec.witness6 (enc := enc) (C := Try.checked) false ⟨#[], #[.int .i64 0, .int .i64 0, .int .i64 0, .int .i64 0], []⟩ 8 (by kernel_rfl) (by kernel_rfl) (by kernel_rfl) (by kernel_rfl)) ?_
  intro W base args ds gs before hval0 hW hcnd _
  have hval : ∀ (j : Nat) t v, Try.f6.params[j]? = some t → args[j]? = some v → Value.okWide Try.prog W .any base t v := hval0
  have hW' := hW
  obtain ⟨p, q, hA0, hV, rfl, hfz, hnd⟩ := hW
  have hA : DataW.TrodAll enc Try.prog W 0 (fun _ => true) true Try.f6.params.toList args.toList ds p := hA0
  rw [Try.params6] at hA hval
  obtain ⟨v0, vs0, d0, ds0, p0, q0, hargs, rfl, rfl, h0, r_0⟩ := trodAll_cons hA
  obtain ⟨v1, vs1, d1, ds1, p1, q1, rfl, rfl, rfl, h1, r_1⟩ := trodAll_cons r_0
  obtain ⟨v2, vs2, d2, ds2, p2, q2, rfl, rfl, rfl, h2, r_2⟩ := trodAll_cons r_1
  obtain ⟨v3, vs3, d3, ds3, p3, q3, rfl, rfl, rfl, h3, r_3⟩ := trodAll_cons r_2
  obtain ⟨rfl, rfl, rfl⟩ := trodAll_nil r_3
  obtain rfl : args = #[v0, v1, v2, v3] := by cases args; simp_all
  obtain ⟨a0, rfl, rfl, rfl, w0⟩ := open_int Try.underlying3 (hval 0 3 v0 rfl rfl) h0
  have b0 := bounds_of_wf w0
  obtain ⟨a1, rfl, rfl, rfl, w1⟩ := open_int Try.underlying3 (hval 1 3 v1 rfl rfl) h1
  have b1 := bounds_of_wf w1
  obtain ⟨a2, rfl, rfl, rfl, w2⟩ := open_int Try.underlying3 (hval 2 3 v2 rfl rfl) h2
  have b2 := bounds_of_wf w2
  obtain ⟨a3, rfl, rfl, rfl, w3⟩ := open_int Try.underlying3 (hval 3 3 v3 rfl rfl) h3
  have b3 := bounds_of_wf w3
  clear hA0 hval0
  refine (moneyWorths_walk W a0 b0 a1 b1 a2 b2 a3 b3).mono fun e W' ⟨he, bel⟩ => ?_
  subst he
  exact ⟨_, rfl, post_true moneyWorths_laidOut (by kernel_rfl) rfl Try.underlying4 rfl hW' (by
    intro es he
    match es, he with
    | [e0, e1, e2, e3], _ => rfl) bel⟩

theorem moneyWorths_over : Rows.moneyWorthsRow.holds Try.pinned (OpenSpec.ofChange Rows.moneyWorthsSpec) :=
  OpenClaim.holds_of_wide 6 Try.f6 rfl rfl rfl rfl rfl rfl rfl ⟨rfl, rfl, rfl, rfl, rfl⟩ rfl rfl rfl rfl rfl (by kernel_rfl) Try.func6 (by kernel_rfl)
    (of_decide_eq_true (by kernel_rfl)) (by unfold Func.isWrapper; first | (rw [if_pos (by decide +kernel)]; kernel_rfl) | (rw [if_neg (by decide +kernel)]; exact ⟨rfl, rfl⟩))
    (fun os started H enc _ => moneyWorths_lifted os started H enc)

theorem moneyWorths_holds : Rows.MoneyWorthsSaid := moneyWorths_over
end Go.Proofs.Ytkokgdebahgbdaa
