/-
  Shares go up with what is done; what is paid in parts adds up to the amount: the statement MoneyShares. No condition.
-/
import Derived.Test.YtkokgdebahgbdaaMoneyC
import Derived.Test.YtkokgdebahgbdaaOpen
import Derived.Test.YtkokgdebahgbdaaRows
namespace Go.Proofs.Ytkokgdebahgbdaa
open Go.ChangeShapes Go.WideShapes Go.ChangeAt Go.RowKit

theorem share_val {a d o : Int} (a0 : 0 ≤ a) (d0 : 0 ≤ d) (d1 : d ≤ o) (o0 : 1 ≤ o) (a1 : a ≤ 1152921504606846976) : shareF a d o = (a * d / o, 0) ∧ 0 ≤ a * d / o ∧ a * d / o ≤ a := by
  have h2 : a * d / o ≤ a := by
    apply Int.le_of_lt_add_one
    rw [Int.ediv_lt_iff_lt_mul (by omega), Int.add_mul]
    have := Int.mul_le_mul_of_nonneg_left d1 a0
    omega
  have h1 : 0 ≤ a * d / o := Int.ediv_nonneg (Int.mul_nonneg a0 d0) (by omega)
  refine ⟨?_, h1, h2⟩
  unfold shareF mdF
  rw [if_neg (by omega), if_neg (by omega), if_neg (by omega)]
theorem share_mono {a d d' o : Int} (a0 : 0 ≤ a) (h : d ≤ d') (o0 : 1 ≤ o) : a * d / o ≤ a * d' / o := by
  apply Int.ediv_le_ediv (by omega)
  exact Int.mul_le_mul_of_nonneg_left h a0

set_option maxHeartbeats 2000000 in
theorem moneyShares_walk (w : World) (a : Int) (ha : -9223372036854775808 ≤ a ∧ a ≤ 9223372036854775807) (o : Int) (ho : -9223372036854775808 ≤ o ∧ o ≤ 9223372036854775807) (A : Option Addr) (n c : Nat) (xs : List Int) (h : Reads w w.heap.size 1 A n (ints xs)) (hl : n ≤ c) (hm : c ≤ maxLen) (_ : ∀ x ∈ xs, -9223372036854775808 ≤ x ∧ x ≤ 9223372036854775807) :
    Calls Try.prog 8 #[.int .i64 a, .int .i64 o, .slice A n c] w fun e w' => e = .returned (.bool true) ∧ Below w.heap.size w w' := by
  have hn : n ≤ 9223372036854775807 := by unfold maxLen at hm; omega
  clear hm
  by_cases g0 : a < 0
  · go_enter Try.func8, Try.ntmps8
    go_wp2_with fail
    refine (alive_any w).mono ?_
    rintro en w2 ⟨rfl, hb2⟩
    go_wp2_with fail
    go_ret
    exact ⟨rfl, hb2⟩
  · by_cases g1 : 1152921504606846976 < a
    · go_enter Try.func8, Try.ntmps8
      go_wp2_with fail
      refine (alive_any w).mono ?_
      rintro en w2 ⟨rfl, hb2⟩
      go_wp2_with fail
      go_ret
      exact ⟨rfl, hb2⟩
    · by_cases g2 : o < 1
      · go_enter Try.func8, Try.ntmps8
        go_wp2_with fail
        refine (alive_any w).mono ?_
        rintro en w2 ⟨rfl, hb2⟩
        go_wp2_with fail
        go_ret
        exact ⟨rfl, hb2⟩
      · by_cases g3 : 1152921504606846976 < o
        · go_enter Try.func8, Try.ntmps8
          go_wp2_with fail
          refine (alive_any w).mono ?_
          rintro en w2 ⟨rfl, hb2⟩
          go_wp2_with fail
          go_ret
          exact ⟨rfl, hb2⟩
        · by_cases g4 : 100 < n
          · go_enter Try.func8, Try.ntmps8
            go_wp2_with fail
            refine (alive_any w).mono ?_
            rintro en w2 ⟨rfl, hb2⟩
            go_wp2_with fail
            go_ret
            exact ⟨rfl, hb2⟩
          · have a0 : 0 ≤ a := by omega
            have a1 : a ≤ 1152921504606846976 := by omega
            have o0 : 1 ≤ o := by omega
            have o1 : o ≤ 1152921504606846976 := by omega
            have n1 : n ≤ 100 := by omega
            have HAI := Lib.hid (show IsI64 a from by unfold IsI64; omega)
            have HOI := Lib.hid (show IsI64 o from by unfold IsI64; omega)
            have hlen := h.int_len
            have HL := Lib.hid hlen
            clear hlen
            go_enter Try.func8, Try.ntmps8
            go_wp2_with fail
            go_loopw [7, 8, 9, 10, 11, 12] (fun dv pv i _ _ _ wr => ∃ (k : Nat) (d pd : Int), k ≤ n + 1 ∧ i = .int .i64 k ∧ dv = .int .i64 d ∧ pv = .int .i64 pd ∧ 0 ≤ d ∧ d ≤ o ∧ pd = a * d / o ∧ (k = n + 1 → d = o) ∧ Below w.heap.size w wr) (fun _ _ i _ _ _ _ => n + 1 - (intOf i).toNat)
            case atStart => exact ⟨0, 0, 0, by omega, rfl, rfl, rfl, by omega, by omega, by simp, fun hh => by omega, Below.refl _ _⟩
            case round =>
              obtain ⟨k, d, pd, hk, rfl, rfl, rfl, d0, d1, hpd, hend, hb⟩ := hrel
              have HPD := Lib.hid hpd
              have HE := Lib.hid hend
              clear hpd hend
              by_cases hlt : k < n
              · obtain ⟨ad, p, rfl, had, hx, hc⟩ := (h.below hb).int hlt
                clear hx
                by_cases hp : p < 0
                · go_wp2_with fail
                  refine (alive_any wr).mono ?_
                  rintro en w3 ⟨rfl, hb3⟩
                  go_wp2_with fail
                  go_ret
                  exact ⟨rfl, hb.trans (hb3.mono hb.size)⟩
                · obtain ⟨nx, hnx, x1, x2⟩ : ∃ nx, d + min p (o - d) = nx ∧ d ≤ nx ∧ nx ≤ o := ⟨_, rfl, by omega, by omega⟩
                  have HNX := Lib.hid hnx
                  clear hnx
                  obtain ⟨v1, v2, v3⟩ := share_val (a := a) (d := nx) (o := o) a0 (by omega) (by omega) o0 a1
                  have hmono := share_mono (a := a) (d := d) (d' := nx) (o := o) a0 (by omega) o0
                  rw [← HPD.out] at hmono
                  have hni : IsI64 nx := by unfold IsI64; omega
                  have HV1 := Lib.hid v1
                  have HNI := Lib.hid hni
                  generalize hnv : a * nx / o = nv at *
                  have HNV := Lib.hid hnv
                  clear v1 hni hnv
                  go_wp2_with (first | rw [HNX.out] | (go_at_call 24; refine (share_any a nx o HAI.out HNI.out HOI.out _).mono ?_; rw [HV1.out]; rintro en w2 ⟨rfl, hb2⟩))
                  go_roundw
                  case rel => exact ⟨k + 1, nx, nv, by omega, by go_num, rfl, rfl, by omega, by omega, HNV.out.symm, fun hh => by omega, hb.trans (hb2.mono hb.size)⟩
                  case measure => simp [intOf]; omega
              · by_cases hkn : k = n
                · have hkl : k ≤ n := by omega
                  obtain ⟨v1, v2, v3⟩ := share_val (a := a) (d := o) (o := o) a0 (by omega) (by omega) o0 a1
                  have hmono := share_mono (a := a) (d := d) (d' := o) (o := o) a0 (by omega) o0
                  rw [← HPD.out] at hmono
                  have hni : IsI64 (o) := by unfold IsI64; omega
                  have HV1 := Lib.hid v1
                  have HNI := Lib.hid hni
                  generalize hnv : a * (o) / o = nv at *
                  have HNV := Lib.hid hnv
                  clear v1 hni hnv
                  go_wp2_with (first | (go_at_call 24; refine (share_any _ _ _ HAI.out HNI.out HOI.out _).mono ?_; rw [HV1.out]; rintro en w2 ⟨rfl, hb2⟩))
                  go_roundw
                  case rel => exact ⟨k + 1, o, nv, by omega, by go_num, rfl, rfl, by omega, by omega, HNV.out.symm, fun hh => by rfl, hb.trans (hb2.mono hb.size)⟩
                  case measure => simp [intOf]; omega
                · have hk1 : k = n + 1 := by omega
                  have hdo := HE.out hk1
                  have hpa : pd = a := by rw [HPD.out, hdo]; exact Int.mul_ediv_cancel _ (by omega)
                  subst hpa
                  have hkg : ¬ k ≤ n := by omega
                  clear hdo hk1
                  go_wp2_with fail
                  refine (alive_any wr).mono ?_
                  rintro en w3 ⟨rfl, hb3⟩
                  go_wp2_with fail
                  go_ret
                  exact ⟨by simp, hb.trans (hb3.mono hb.size)⟩

/-! ### THE ROW's STEP -/
theorem moneyShares_own : ownKnob Try.prog.godebug = none := by kernel_rfl
theorem moneyShares_laidOut : laidOutB Try.prog = true := by kernel_rfl
set_option maxRecDepth 100000 in
theorem moneyShares_lifted (os : Os) (started : os.Started) (H : Type) (enc : TypeId × Value → H) :
    ReturnsInHanded {} Try.checked os 8 .any (Rows.moneySharesSpec.pre6 enc Try.prog Try.f8 Rows.moneySharesRow.domain false) (Rows.moneySharesSpec.post enc Try.prog Try.f8 false true false false) := by
  refine returnsInHanded_of_change (C := Try.checked) moneyShares_own started (by kernel_rfl) Try.func8
    (ChangeSpec.witness6 (enc := enc) (C := Try.checked) false ⟨#[], #[.int .i64 0, .int .i64 0, .slice none 0 0], []⟩ 8 (by kernel_rfl) (by kernel_rfl) (by kernel_rfl) (by kernel_rfl)) ?_
  intro W base args ds gs before hval0 hW hcnd _
  have hval : ∀ (j : Nat) t v, Try.f8.params[j]? = some t → args[j]? = some v → Value.okWide Try.prog W .any base t v := hval0
  have hW' := hW
  obtain ⟨p, q, hA0, hV, rfl, hfz, hnd⟩ := hW
  have hA : DataW.TrodAll enc Try.prog W 0 (fun _ => true) true Try.f8.params.toList args.toList ds p := hA0
  rw [Try.params8] at hA hval
  obtain ⟨v0, vs0, d0, ds0, p0, q0, hargs, rfl, rfl, h0, r_0⟩ := trodAll_cons hA
  obtain ⟨v1, vs1, d1, ds1, p1, q1, rfl, rfl, rfl, h1, r_1⟩ := trodAll_cons r_0
  obtain ⟨v2, vs2, d2, ds2, p2, q2, rfl, rfl, rfl, h2, r_2⟩ := trodAll_cons r_1
  obtain ⟨rfl, rfl, rfl⟩ := trodAll_nil r_2
  obtain rfl : args = #[v0, v1, v2] := by cases args; simp_all
  obtain ⟨a0, rfl, rfl, rfl, w0⟩ := open_int Try.underlying3 (hval 0 3 v0 rfl rfl) h0
  have b0 := bounds_of_wf w0
  obtain ⟨a1, rfl, rfl, rfl, w1⟩ := open_int Try.underlying3 (hval 1 3 v1 rfl rfl) h1
  have b1 := bounds_of_wf w1
  obtain ⟨A2, n2, c2, x2, rfl, r2, l2, m2, z2⟩ := open_slice_ints Try.underlying22 Try.underlying3 (by kernel_rfl) (hval 2 22 v2 rfl rfl) h2
  clear hA0 hval0
  refine (moneyShares_walk W a0 b0 a1 b1 A2 n2 c2 x2 r2 l2 m2 z2).mono fun e W' ⟨he, bel⟩ => ?_
  subst he
  exact ⟨_, rfl, post_true moneyShares_laidOut (by kernel_rfl) rfl Try.underlying4 rfl hW' (by
    intro es he
    match es, he with
    | [e0, e1, e2], _ => rfl) bel⟩

theorem moneyShares_over : Rows.moneySharesRow.holds Try.pinned (OpenSpec.ofChange Rows.moneySharesSpec) :=
  OpenClaim.holds_of_wide 8 Try.f8 rfl rfl rfl rfl rfl rfl rfl ⟨rfl, rfl, rfl, rfl, rfl⟩ rfl rfl rfl rfl rfl (by kernel_rfl) Try.func8 (by kernel_rfl)
    (of_decide_eq_true (by kernel_rfl)) (by unfold Func.isWrapper; first | (rw [if_pos (by decide +kernel)]; kernel_rfl) | (rw [if_neg (by decide +kernel)]; exact ⟨rfl, rfl⟩))
    (fun os started H enc _ => moneyShares_lifted os started H enc)

theorem moneyShares_holds : Rows.MoneySharesSaid := moneyShares_over
end Go.Proofs.Ytkokgdebahgbdaa
