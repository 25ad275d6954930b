/-
  Every digits and number, least and most: the statement MoneyTexts. No condition.
-/
import Derived.Test.YtkokgdebahgbdaaRefNum
import Derived.Test.YtkokgdebahgbdaaRefDig
import Derived.Test.YtkokgdebahgbdaaMoneyC
import Derived.Test.YtkokgdebahgbdaaOpen
import Derived.ChangeMaps5
import Derived.Test.YtkokgdebahgbdaaRows
namespace Go.Proofs.Ytkokgdebahgbdaa
open Go.ChangeShapes Go.WideShapes Go.ChangeAt Go.RowKit

theorem leastF_next {xs : List Int} {k : Nat} (hk : k < xs.length) : leastF (xs.take (k + 1)) = if k = 0 then xs.getD k 0 else min (leastF (xs.take k)) (xs.getD k 0) := by
  unfold leastF
  rw [List.length_take, List.length_take]
  by_cases h0 : k = 0
  · subst h0
    rw [if_neg (by omega), if_pos rfl, Lib.minOf_one]
  · rw [if_neg (by omega), if_neg h0, if_neg (by omega), Lib.minOf_step _ _ (by omega) hk]
theorem mostF_next {xs : List Int} {k : Nat} (hk : k < xs.length) : mostF (xs.take (k + 1)) = if k = 0 then xs.getD k 0 else max (mostF (xs.take k)) (xs.getD k 0) := by
  unfold mostF
  rw [List.length_take, List.length_take]
  by_cases h0 : k = 0
  · subst h0
    rw [if_neg (by omega), if_pos rfl, Lib.maxOf_one]
  · rw [if_neg (by omega), if_neg h0, if_neg (by omega), Lib.maxOf_step _ _ (by omega) hk]

set_option maxHeartbeats 2000000 in
theorem moneyTexts_walk (w : World) (v : Int) (hv : -9223372036854775808 ≤ v ∧ v ≤ 9223372036854775807) (s : ByteArray) (hs : s.size ≤ maxLen)
    (L : Option Addr) (n cl : Nat) (xs : List Int) (h : Reads w w.heap.size 1 L n (ints xs)) (_ : n ≤ cl) (hm : cl ≤ maxLen) (_ : ∀ x ∈ xs, -9223372036854775808 ≤ x ∧ x ≤ 9223372036854775807) :
    Calls Try.prog 9 #[.int .i64 v, .string s, .slice L n cl] w fun e w' => e = .returned (.bool true) ∧ Below w.heap.size w w' := by
  have hn : n ≤ 9223372036854775807 := by unfold maxLen at hm; omega
  have hs' : s.size ≤ 9223372036854775807 := by unfold maxLen at hs; omega
  have HSS := Lib.hid hs'
  clear hm hs
  have HV : Hid (IsI64 v) := Lib.hid hv
  clear hv
  by_cases h1 : 3000 < s.size
  · go_enter Try.func9, Try.ntmps9
    go_wp2_with fail
    refine (alive_any w).mono ?_
    rintro en w2 ⟨rfl, hb2⟩
    go_wp2_with fail
    go_ret
    exact ⟨rfl, hb2⟩
  · by_cases h2 : 2000 < n
    · go_enter Try.func9, Try.ntmps9
      go_wp2_with fail
      refine (alive_any w).mono ?_
      rintro en w2 ⟨rfl, hb2⟩
      go_wp2_with fail
      go_ret
      exact ⟨rfl, hb2⟩
    · have HLN := Lib.hid h.int_len
      go_enter Try.func9, Try.ntmps9
      go_wp2_with fail
      refine (number_any s w).mono ?_
      rintro en w1 ⟨rfl, b1⟩
      go_wp2_with fail
      refine (r_number_any s HSS.out w1).mono ?_
      rintro en w2 ⟨rfl, b2⟩
      have B2 := Lib.hid (b1.trans (b2.mono b1.size))
      have h0 := Lib.hid h
      have HR := Lib.hid (h.below B2.out)
      clear b1 b2 h h1 hs'
      obtain ⟨x, y⟩ := numberF s.data.toList
      dsimp only
      go_wp2_with fail
      go_loop [11, 12, 13] (fun lo hi iv => ∃ k : Nat, k ≤ n ∧ iv = .int .i64 k ∧ lo = .int .i64 (leastF (xs.take k)) ∧ hi = .int .i64 (mostF (xs.take k))) (fun _ _ iv => n - (intOf iv).toNat)
      case atStart => exact ⟨0, Nat.zero_le _, rfl, by simp [leastF], by simp [mostF]⟩
      case round =>
        obtain ⟨k, hk, rfl, rfl, rfl⟩ := hrel
        by_cases hlt : k < n
        · obtain ⟨ad, z, rfl, _, hx, hc⟩ := HR.out.int hlt
          have hl1 := leastF_next (xs := xs) (k := k) (by rw [HLN.out]; exact hlt)
          have hm1 := mostF_next (xs := xs) (k := k) (by rw [HLN.out]; exact hlt)
          have hze : xs.getD k 0 = z := by rw [List.getD_eq_getElem?_getD, hx]; rfl
          rw [hze] at hl1 hm1
          have HL1 := Lib.hid hl1
          have HM1 := Lib.hid hm1
          clear hl1 hm1 hze hx
          generalize leastF (xs.take k) = lo at *
          generalize mostF (xs.take k) = hi at *
          by_cases hk0 : k = 0
          · have hkb : ((k : Int) == 0) = true := by simp; omega
            have HK0 := Lib.hid hk0
            clear hk0
            go_wp2_with fail
            go_round
            case rel => exact ⟨k + 1, by omega, by go_num, by rw [HL1.out, if_pos HK0.out], by rw [HM1.out, if_pos HK0.out]⟩
            case measure => simp [intOf]; omega
          · have hkb : ((k : Int) == 0) = false := by simp; omega
            have hl1 := HL1.out
            have hm1 := HM1.out
            rw [if_neg hk0] at hl1 hm1
            have HL2 := Lib.hid hl1
            have HM2 := Lib.hid hm1
            clear hl1 hm1 HL1 HM1
            by_cases a1 : z < lo <;> by_cases a2 : hi < z
            all_goals
              go_wp2_with fail
              go_round
              case rel => exact ⟨k + 1, by omega, by go_num, by rw [HL2.out]; congr 1; omega, by rw [HM2.out]; congr 1; omega⟩
              case measure => simp [intOf]; omega
        · obtain rfl : k = n := by omega
          have e : xs.take k = xs := List.take_of_length_le (by rw [HLN.out]; exact Nat.le_refl _)
          rw [e]
          clear e hlt
          have q1 : (x == x) = true := by simp
          have q2 : (y == y) = true := by simp
          go_wp2_with fail
          refine (alive_any _).mono ?_
          rintro en w3 ⟨rfl, b3⟩
          have B3 := Lib.hid (B2.out.trans (b3.mono B2.out.size))
          clear b3
          go_wp2_with fail
          refine (digits_any v HV.out _).mono ?_
          rintro en w4 ⟨rfl, b4⟩
          have B4 := Lib.hid (B3.out.trans (b4.mono B3.out.size))
          clear b4
          go_wp2_with fail
          refine (r_digits_any v HV.out _).mono ?_
          rintro en w5 ⟨rfl, b5⟩
          have B5 := Lib.hid (B4.out.trans (b5.mono B4.out.size))
          clear b5
          obtain ⟨D, hD⟩ : ∃ D : ByteArray, D = ⟨(digitsF v).toArray⟩ := ⟨_, rfl⟩
          rw [← hD]
          clear hD
          have q3 : (D.toList == D.toList) = true := beq_self_eq_true _
          have HR5 := Lib.hid (h0.out.below B5.out)
          go_wp2_with fail
          refine (least_any L k cl xs _ _ HR5.out (by omega)).mono ?_
          rintro en w6 ⟨rfl, rfl⟩
          have q4 : (leastF xs == leastF xs) = true := beq_self_eq_true _
          go_wp2_with fail
          refine (most_any L k cl xs _ _ HR5.out (by omega)).mono ?_
          rintro en w6 ⟨rfl, rfl⟩
          have q5 : (mostF xs == mostF xs) = true := beq_self_eq_true _
          go_wp2_with fail
          go_ret
          exact ⟨rfl, B5.out⟩

/-! ### THE ROW's STEP -/
theorem moneyTexts_own : ownKnob Try.prog.godebug = none := by kernel_rfl
theorem moneyTexts_laidOut : laidOutB Try.prog = true := by kernel_rfl
set_option maxRecDepth 100000 in
theorem moneyTexts_lifted (os : Os) (started : os.Started) (H : Type) (enc : TypeId × Value → H) :
    ReturnsInHanded {} Try.checked os 9 .any (Rows.moneyTextsSpec.pre6 enc Try.prog Try.f9 Rows.moneyTextsRow.domain false) (Rows.moneyTextsSpec.post enc Try.prog Try.f9 false true false false) := by
  refine returnsInHanded_of_change (C := Try.checked) moneyTexts_own started (by kernel_rfl) Try.func9
    (ChangeSpec.witness6 (enc := enc) (C := Try.checked) false ⟨#[], #[.int .i64 0, .string ⟨#[]⟩, .slice none 0 0], []⟩ 8 (by kernel_rfl) (by kernel_rfl) (by kernel_rfl) (by kernel_rfl)) ?_
  intro W base args ds gs before hval0 hW hcnd _
  have hval : ∀ (j : Nat) t v, Try.f9.params[j]? = some t → args[j]? = some v → Value.okWide Try.prog W .any base t v := hval0
  have hW' := hW
  obtain ⟨p, q, hA0, hV, rfl, hfz, hnd⟩ := hW
  have hA : DataW.TrodAll enc Try.prog W 0 (fun _ => true) true Try.f9.params.toList args.toList ds p := hA0
  rw [Try.params9] at hA hval
  obtain ⟨v0, vs0, d0, ds0, p0, q0, hargs, rfl, rfl, h0, r_0⟩ := trodAll_cons hA
  obtain ⟨v1, vs1, d1, ds1, p1, q1, rfl, rfl, rfl, h1, r_1⟩ := trodAll_cons r_0
  obtain ⟨v2, vs2, d2, ds2, p2, q2, rfl, rfl, rfl, h2, r_2⟩ := trodAll_cons r_1
  obtain ⟨rfl, rfl, rfl⟩ := trodAll_nil r_2
  obtain rfl : args = #[v0, v1, v2] := by cases args; simp_all
  obtain ⟨a0, rfl, rfl, rfl, w0⟩ := open_int Try.underlying3 (hval 0 3 v0 rfl rfl) h0
  have b0 := bounds_of_wf w0
  obtain ⟨a1, rfl, rfl, rfl, w1⟩ := Go.ChangeMaps.open_string Try.underlying9 (hval 1 9 v1 rfl rfl) h1
  obtain ⟨A2, n2, c2, x2, rfl, r2, l2, m2, z2⟩ := open_slice_ints Try.underlying22 Try.underlying3 (by kernel_rfl) (hval 2 22 v2 rfl rfl) h2
  clear hA0 hval0
  refine (moneyTexts_walk W a0 b0 a1 w1 A2 n2 c2 x2 r2 l2 m2 z2).mono fun e W' ⟨he, bel⟩ => ?_
  subst he
  exact ⟨_, rfl, post_true moneyTexts_laidOut (by kernel_rfl) rfl Try.underlying4 rfl hW' (by
    intro es he
    match es, he with
    | [e0, e1, e2], _ => rfl) bel⟩

theorem moneyTexts_over : Rows.moneyTextsRow.holds Try.pinned (OpenSpec.ofChange Rows.moneyTextsSpec) :=
  OpenClaim.holds_of_wide 9 Try.f9 rfl rfl rfl rfl rfl rfl rfl ⟨rfl, rfl, rfl, rfl, rfl⟩ rfl rfl rfl rfl rfl (by kernel_rfl) Try.func9 (by kernel_rfl)
    (of_decide_eq_true (by kernel_rfl)) (by unfold Func.isWrapper; first | (rw [if_pos (by decide +kernel)]; kernel_rfl) | (rw [if_neg (by decide +kernel)]; exact ⟨rfl, rfl⟩))
    (fun os started H enc _ => moneyTexts_lifted os started H enc)

theorem moneyTexts_holds : Rows.MoneyTextsSaid := moneyTexts_over
end Go.Proofs.Ytkokgdebahgbdaa
