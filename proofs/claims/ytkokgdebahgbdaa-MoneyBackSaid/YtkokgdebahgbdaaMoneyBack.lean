/-
  A number's digits are read as it was, if they are few enough; two numbers have the same digits just if they are the same: the statement MoneyBack. No condition.
-/
import Derived.Test.YtkokgdebahgbdaaMoneyC
import Derived.Test.YtkokgdebahgbdaaOpen
import Derived.Test.YtkokgdebahgbdaaRows
namespace Go.Proofs.Ytkokgdebahgbdaa
open Go.ChangeShapes Go.WideShapes Go.ChangeAt Go.RowKit

theorem digits_eq (a b : Int) : ((ByteArray.mk (digitsF a).toArray).toList == (ByteArray.mk (digitsF b).toArray).toList) = (a == b) := by
  rw [ByteArray.toList_eq, ByteArray.toList_eq, Bool.eq_iff_iff]
  simp only [beq_iff_eq]
  constructor
  · intro h
    exact digitsF_inj (by simpa using h)
  · rintro rfl; rfl

theorem moneyBack_walk (w : World) (a : Int) (ha : -9223372036854775808 ≤ a ∧ a ≤ 9223372036854775807) (b : Int) (hb : -9223372036854775808 ≤ b ∧ b ≤ 9223372036854775807) :
    Calls Try.prog 4 #[.int .i64 a, .int .i64 b] w fun e w' => e = .returned (.bool true) ∧ Below w.heap.size w w' := by
  have hd := digits_eq a b
  have hnum := number_digits a
  have hnum' : numberF (ByteArray.mk (digitsF a).toArray).data.toList = if -1000000000000000000 < a ∧ a < 1000000000000000000 then (a, 0) else (0, 1) := by simpa using hnum
  have HA := Lib.hid ha
  have HB := Lib.hid hb
  obtain ⟨DA, hDA⟩ : ∃ DA, DA = ByteArray.mk (digitsF a).toArray := ⟨_, rfl⟩
  obtain ⟨DB, hDB⟩ : ∃ DB, DB = ByteArray.mk (digitsF b).toArray := ⟨_, rfl⟩
  rw [← hDA] at hd hnum'
  rw [← hDB] at hd
  have HD := Lib.hid hd
  have HDA := Lib.hid hDA
  have HDB := Lib.hid hDB
  clear hd hDA hDB hnum
  by_cases hfew : -1000000000000000000 < a ∧ a < 1000000000000000000
  · rw [if_pos hfew] at hnum'
    have HN := Lib.hid hnum'
    obtain ⟨f1, f2⟩ := hfew
    clear hnum' ha hb
    go_enter Try.func4, Try.ntmps4
    go_wp2_with fail
    refine (digits_any a HA.out w).mono ?_
    rintro en w1 ⟨rfl, hb1⟩
    rw [← HDA.out]
    go_wp2_with fail
    refine (number_any DA w1).mono ?_
    rintro en w2 ⟨rfl, hb2⟩
    rw [HN.out]
    go_wp2_with fail
    refine (alive_any w2).mono ?_
    rintro en w3 ⟨rfl, hb3⟩
    go_wp2_with fail
    refine (digits_any a HA.out w3).mono ?_
    rintro en w4 ⟨rfl, hb4⟩
    rw [← HDA.out]
    go_wp2_with fail
    refine (digits_any b HB.out w4).mono ?_
    rintro en w5 ⟨rfl, hb5⟩
    rw [← HDB.out]
    have h12 := hb1.trans (hb2.mono hb1.size)
    have h13 := h12.trans (hb3.mono h12.size)
    have h14 := h13.trans (hb4.mono h13.size)
    have h15 := h14.trans (hb5.mono h14.size)
    go_wp2_with (first | rw [HD.out])
    go_ret
    exact ⟨by simp, h15⟩
  · rw [if_neg hfew] at hnum'
    have HN := Lib.hid hnum'
    have HF := Lib.hid hfew
    clear hnum' ha hb hfew
    by_cases f1 : -1000000000000000000 < a
    all_goals
      have f2 : a ≤ -1000000000000000000 ∨ 1000000000000000000 ≤ a := by have := HF.out; omega
      go_enter Try.func4, Try.ntmps4
      go_wp2_with fail
      refine (digits_any a HA.out w).mono ?_
      rintro en w1 ⟨rfl, hb1⟩
      rw [← HDA.out]
      go_wp2_with fail
      refine (number_any DA w1).mono ?_
      rintro en w2 ⟨rfl, hb2⟩
      rw [HN.out]
      go_wp2_with fail
      refine (alive_any w2).mono ?_
      rintro en w3 ⟨rfl, hb3⟩
      go_wp2_with fail
      refine (digits_any a HA.out w3).mono ?_
      rintro en w4 ⟨rfl, hb4⟩
      rw [← HDA.out]
      go_wp2_with fail
      refine (digits_any b HB.out w4).mono ?_
      rintro en w5 ⟨rfl, hb5⟩
      rw [← HDB.out]
      have h12 := hb1.trans (hb2.mono hb1.size)
      have h13 := h12.trans (hb3.mono h12.size)
      have h14 := h13.trans (hb4.mono h13.size)
      have h15 := h14.trans (hb5.mono h14.size)
      go_wp2_with (first | rw [HD.out])
      go_ret
      exact ⟨by simp, h15⟩

/-! ### THE ROW's STEP -/
theorem moneyBack_own : ownKnob Try.prog.godebug = none := by kernel_rfl
theorem moneyBack_laidOut : laidOutB Try.prog = true := by kernel_rfl
set_option maxRecDepth 100000 in
theorem moneyBack_lifted (os : Os) (started : os.Started) (H : Type) (enc : TypeId × Value → H) :
    ReturnsInHanded {} Try.checked os 4 .any (Rows.moneyBackSpec.pre6 enc Try.prog Try.f4 Rows.moneyBackRow.domain false) (Rows.moneyBackSpec.post enc Try.prog Try.f4 false true false false) := by
  refine returnsInHanded_of_change (C := Try.checked) moneyBack_own started (by kernel_rfl) Try.func4
    (ChangeSpec.witness6 (enc := enc) (C := Try.checked) false ⟨#[], #[.int .i64 0, .int .i64 0], []⟩ 8 (by kernel_rfl) (by kernel_rfl) (by kernel_rfl) (by kernel_rfl)) ?_
  intro W base args ds gs before hval0 hW hcnd _
  have hval : ∀ (j : Nat) t v, Try.f4.params[j]? = some t → args[j]? = some v → Value.okWide Try.prog W .any base t v := hval0
  have hW' := hW
  obtain ⟨p, q, hA0, hV, rfl, hfz, hnd⟩ := hW
  have hA : DataW.TrodAll enc Try.prog W 0 (fun _ => true) true Try.f4.params.toList args.toList ds p := hA0
  rw [Try.params4] at hA hval
  obtain ⟨v0, vs0, d0, ds0, p0, q0, hargs, rfl, rfl, h0, r_0⟩ := trodAll_cons hA
  obtain ⟨v1, vs1, d1, ds1, p1, q1, rfl, rfl, rfl, h1, r_1⟩ := trodAll_cons r_0
  obtain ⟨rfl, rfl, rfl⟩ := trodAll_nil r_1
  obtain rfl : args = #[v0, v1] := by cases args; simp_all
  obtain ⟨a0, rfl, rfl, rfl, w0⟩ := open_int Try.underlying3 (hval 0 3 v0 rfl rfl) h0
  have b0 := bounds_of_wf w0
  obtain ⟨a1, rfl, rfl, rfl, w1⟩ := open_int Try.underlying3 (hval 1 3 v1 rfl rfl) h1
  have b1 := bounds_of_wf w1
  clear hA0 hval0
  refine (moneyBack_walk W a0 b0 a1 b1).mono fun e W' ⟨he, bel⟩ => ?_
  subst he
  exact ⟨_, rfl, post_true moneyBack_laidOut (by kernel_rfl) rfl Try.underlying4 rfl hW' (by
    intro es he
    match es, he with
    | [e0, e1], _ => rfl) bel⟩

theorem moneyBack_over : Rows.moneyBackRow.holds Try.pinned (OpenSpec.ofChange Rows.moneyBackSpec) :=
  OpenClaim.holds_of_wide 4 Try.f4 rfl rfl rfl rfl rfl rfl rfl ⟨rfl, rfl, rfl, rfl, rfl⟩ rfl rfl rfl rfl rfl (by kernel_rfl) Try.func4 (by kernel_rfl)
    (of_decide_eq_true (by kernel_rfl)) (by unfold Func.isWrapper; first | (rw [if_pos (by decide +kernel)]; kernel_rfl) | (rw [if_neg (by decide +kernel)]; exact ⟨rfl, rfl⟩))
    (fun os started H enc _ => moneyBack_lifted os started H enc)

theorem moneyBack_holds : Rows.MoneyBackSaid := moneyBack_over
end Go.Proofs.Ytkokgdebahgbdaa
