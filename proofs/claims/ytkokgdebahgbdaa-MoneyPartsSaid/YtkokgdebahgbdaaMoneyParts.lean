/-
  Every part, share, worth and need, or its error: the statement MoneyParts. No condition.
-/
import Derived.Test.YtkokgdebahgbdaaBigE
import Derived.Test.YtkokgdebahgbdaaMoneyC
import Derived.Test.YtkokgdebahgbdaaOpen
import Derived.Test.YtkokgdebahgbdaaRows
namespace Go.Proofs.Ytkokgdebahgbdaa
open Go.ChangeShapes Go.WideShapes Go.ChangeAt Go.RowKit

set_option maxHeartbeats 4000000 in
theorem moneyParts_walk (w : World) (a : Int) (ha : -9223372036854775808 ≤ a ∧ a ≤ 9223372036854775807) (b : Int) (hb : -9223372036854775808 ≤ b ∧ b ≤ 9223372036854775807) (c : Int) (hc : -9223372036854775808 ≤ c ∧ c ≤ 9223372036854775807) :
    Calls Try.prog 12 #[.int .i64 a, .int .i64 b, .int .i64 c] w fun e w' => e = .returned (.bool true) ∧ Below w.heap.size w w' := by
  have HA : Hid (IsI64 a) := Lib.hid ha
  have HB : Hid (IsI64 b) := Lib.hid hb
  have HC : Hid (IsI64 c) := Lib.hid hc
  clear ha hb hc
  go_enter Try.func12, Try.ntmps12
  go_wp2_with fail
  refine (mulDiv_any a b c HA.out HB.out HC.out w).mono ?_
  rintro en w1 ⟨rfl, b1⟩
  go_wp2_with fail
  refine (r_mulDiv_any a b c HA.out HB.out HC.out w1).mono ?_
  rintro en w2 ⟨rfl, b2⟩
  have B2 := Lib.hid (b1.trans (b2.mono b1.size))
  clear b1 b2
  obtain ⟨x, y⟩ := mdF a b c
  dsimp only
  have q1 : (x != x) = false := by simp
  have q2 : (y != y) = false := by simp
  go_wp2_with fail
  refine (share_any a b c HA.out HB.out HC.out w2).mono ?_
  rintro en w3 ⟨rfl, b3⟩
  go_wp2_with fail
  refine (r_share_any a b c HA.out HB.out HC.out w3).mono ?_
  rintro en w4 ⟨rfl, b4⟩
  have B4 := Lib.hid ((B2.out.trans (b3.mono B2.out.size)).trans (b4.mono (Nat.le_trans B2.out.size b3.size)))
  clear b3 b4
  clear q1 q2
  obtain ⟨x', y'⟩ := shareF a b c
  dsimp only
  have q1 : (x' != x') = false := by simp
  have q2 : (y' != y') = false := by simp
  go_wp2_with fail
  refine (worth_any a b c HA.out HB.out HC.out w4).mono ?_
  rintro en w5 ⟨rfl, b5⟩
  go_wp2_with fail
  refine (r_worth_any a b c HA.out HB.out HC.out w5).mono ?_
  rintro en w6 ⟨rfl, b6⟩
  have B6 := Lib.hid ((B4.out.trans (b5.mono B4.out.size)).trans (b6.mono (Nat.le_trans B4.out.size b5.size)))
  clear b5 b6
  clear q1 q2
  obtain ⟨x2, y2⟩ := worthF a b c
  dsimp only
  have q1 : (x2 != x2) = false := by simp
  have q2 : (y2 != y2) = false := by simp
  go_wp2_with fail
  refine (need_any a b c HA.out HB.out HC.out w6).mono ?_
  rintro en w7 ⟨r, hr, rfl, b7⟩
  have HR := Lib.hid hr
  clear hr
  go_wp2_with fail
  refine (r_need_any a b c HA.out HB.out HC.out w7).mono ?_
  rintro en w8 ⟨r', hr', rfl, b8⟩
  have B8 := Lib.hid ((B6.out.trans (b7.mono B6.out.size)).trans (b8.mono (Nat.le_trans B6.out.size b7.size)))
  obtain rfl := need_one HR.out hr'
  clear b7 b8 hr'
  clear q1 q2 HR
  obtain ⟨x3, y3⟩ := r
  dsimp only
  have q1 : (x3 == x3) = true := by simp
  have q2 : (y3 == y3) = true := by simp
  go_wp2_with fail
  refine (alive_any _).mono ?_
  rintro en w9 ⟨rfl, b9⟩
  have B9 := Lib.hid (B8.out.trans (b9.mono B8.out.size))
  clear b9
  go_wp2_with fail
  go_ret
  exact ⟨rfl, B9.out⟩

/-! ### THE ROW's STEP -/
theorem moneyParts_own : ownKnob Try.prog.godebug = none := by kernel_rfl
theorem moneyParts_laidOut : laidOutB Try.prog = true := by kernel_rfl
set_option maxRecDepth 100000 in
theorem moneyParts_lifted (os : Os) (started : os.Started) (H : Type) (enc : TypeId × Value → H) :
    ReturnsInHanded {} Try.checked os 12 .any (Rows.moneyPartsSpec.pre6 enc Try.prog Try.f12 Rows.moneyPartsRow.domain false) (Rows.moneyPartsSpec.post enc Try.prog Try.f12 false true false false) := by
  refine returnsInHanded_of_change (C := Try.checked) moneyParts_own started (by kernel_rfl) Try.func12
    (ChangeSpec.witness6 (enc := enc) (C := Try.checked) false ⟨#[], #[.int .i64 0, .int .i64 0, .int .i64 0], []⟩ 8 (by kernel_rfl) (by kernel_rfl) (by kernel_rfl) (by kernel_rfl)) ?_
  intro W base args ds gs before hval0 hW hcnd _
  have hval : ∀ (j : Nat) t v, Try.f12.params[j]? = some t → args[j]? = some v → Value.okWide Try.prog W .any base t v := hval0
  have hW' := hW
  obtain ⟨p, q, hA0, hV, rfl, hfz, hnd⟩ := hW
  have hA : DataW.TrodAll enc Try.prog W 0 (fun _ => true) true Try.f12.params.toList args.toList ds p := hA0
  rw [Try.params12] at hA hval
  obtain ⟨v0, vs0, d0, ds0, p0, q0, hargs, rfl, rfl, h0, r_0⟩ := trodAll_cons hA
  obtain ⟨v1, vs1, d1, ds1, p1, q1, rfl, rfl, rfl, h1, r_1⟩ := trodAll_cons r_0
  obtain ⟨v2, vs2, d2, ds2, p2, q2, rfl, rfl, rfl, h2, r_2⟩ := trodAll_cons r_1
  obtain ⟨rfl, rfl, rfl⟩ := trodAll_nil r_2
  obtain rfl : args = #[v0, v1, v2] := by cases args; simp_all
  obtain ⟨a0, rfl, rfl, rfl, w0⟩ := open_int Try.underlying3 (hval 0 3 v0 rfl rfl) h0
  have b0 := bounds_of_wf w0
  obtain ⟨a1, rfl, rfl, rfl, w1⟩ := open_int Try.underlying3 (hval 1 3 v1 rfl rfl) h1
  have b1 := bounds_of_wf w1
  obtain ⟨a2, rfl, rfl, rfl, w2⟩ := open_int Try.underlying3 (hval 2 3 v2 rfl rfl) h2
  have b2 := bounds_of_wf w2
  clear hA0 hval0
  refine (moneyParts_walk W a0 b0 a1 b1 a2 b2).mono fun e W' ⟨he, bel⟩ => ?_
  subst he
  exact ⟨_, rfl, post_true moneyParts_laidOut (by kernel_rfl) rfl Try.underlying4 rfl hW' (by
    intro es he
    match es, he with
    | [e0, e1, e2], _ => rfl) bel⟩

theorem moneyParts_over : Rows.moneyPartsRow.holds Try.pinned (OpenSpec.ofChange Rows.moneyPartsSpec) :=
  OpenClaim.holds_of_wide 12 Try.f12 rfl rfl rfl rfl rfl rfl rfl ⟨rfl, rfl, rfl, rfl, rfl⟩ rfl rfl rfl rfl rfl (by kernel_rfl) Try.func12 (by kernel_rfl)
    (of_decide_eq_true (by kernel_rfl)) (by unfold Func.isWrapper; first | (rw [if_pos (by decide +kernel)]; kernel_rfl) | (rw [if_neg (by decide +kernel)]; exact ⟨rfl, rfl⟩))
    (fun os started H enc _ => moneyParts_lifted os started H enc)

theorem moneyParts_holds : Rows.MoneyPartsSaid := moneyParts_over
end Go.Proofs.Ytkokgdebahgbdaa
