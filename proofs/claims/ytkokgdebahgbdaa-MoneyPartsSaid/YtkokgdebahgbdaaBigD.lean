/-
  Contracts of the reference's MulDiv, Share, Worth, Need.
-/
import Derived.Test.YtkokgdebahgbdaaBigC
namespace Go.Proofs.Ytkokgdebahgbdaa
open Go.RowKit

theorem r_mulDiv_no (a b c : Int) (h : a < 0 ∨ b < 0 ∨ c < 1) (w : World) : Calls Try.prog 30 #[.int .i64 a, .int .i64 b, .int .i64 c] w (TwoRes (mdF a b c) w) := by
  have HF := Lib.hid (show mdF a b c = (0, 1) from by unfold mdF; rw [if_pos h])
  by_cases h1 : a < 0
  · go_enter Try.func30, Try.ntmps30
    go_wp2_with fail
    go_ret2
    exact two_res HF.out (Below.refl _ _)
  · by_cases h2 : b < 0
    · go_enter Try.func30, Try.ntmps30
      go_wp2_with fail
      go_ret2
      exact two_res HF.out (Below.refl _ _)
    · have h3 : c < 1 := by omega
      clear h
      go_enter Try.func30, Try.ntmps30
      go_wp2_with fail
      go_ret2
      exact two_res HF.out (Below.refl _ _)

set_option maxHeartbeats 1000000 in
theorem r_mulDiv_yes (a b c : Nat) (ha : a ≤ 9223372036854775807) (hb : b ≤ 9223372036854775807) (hc1 : 1 ≤ c) (hc : c ≤ 9223372036854775807) (w : World) :
    Calls Try.prog 30 #[.int .i64 (a : Int), .int .i64 (b : Int), .int .i64 (c : Int)] w (TwoRes (mdF a b c) w) := by
  have hab : a * b ≤ 9223372036854775807 * 9223372036854775807 := Nat.mul_le_mul ha hb
  have HAB := Lib.hid hab
  have HP : Hid (a < 1073741824 ^ 6 ∧ b < 1073741824 ^ 6 ∧ a * b < 1073741824 ^ 6) := Lib.hid (by omega)
  have hf : mdF a b c = if 1152921504606846976 < a * b / c then (0, 12) else (((a * b / c : Nat) : Int), 0) := by
    unfold mdF
    rw [if_neg (by omega)]
    have e : (a : Int) * (b : Int) / (c : Int) = ((a * b / c : Nat) : Int) := by simp
    rw [e]
    by_cases h : 1152921504606846976 < a * b / c
    · rw [if_pos h, if_pos (by omega)]
    · rw [if_neg h, if_neg (by omega)]
  have HF := Lib.hid hf
  clear hab hf
  go_enter Try.func30, Try.ntmps30
  go_wp2_with fail
  refine (of_any a ha _).mono ?_
  rintro en w1 ⟨rfl, hb1⟩
  go_wp2_with fail
  refine (of_any b hb _).mono ?_
  rintro en w2 ⟨rfl, hb2⟩
  go_wp2_with fail
  refine (mulB_any a b HP.out.1 HP.out.2.1 HP.out.2.2 _).mono ?_
  rintro en w3 ⟨rfl, hb3⟩
  go_wp2_with fail
  refine (of_any c hc _).mono ?_
  rintro en w4 ⟨rfl, hb4⟩
  have HB := Lib.hid (((hb1.trans (hb2.mono hb1.size)).trans (hb3.mono (Nat.le_trans hb1.size hb2.size))).trans (hb4.mono (Nat.le_trans (Nat.le_trans hb1.size hb2.size) hb3.size)))
  clear hb1 hb2 hb3 hb4
  go_wp2_with fail
  refine (most_big (a * b) c 1152921504606846977 HP.out.2.2 hc1 (by omega) (Nat.le_refl _) _).mono ?_
  rintro en w5 ⟨rfl, hb5⟩
  have HB5 := Lib.hid (HB.out.trans (hb5.mono HB.out.size))
  clear hb5
  generalize a * b / c = q at *
  by_cases h : 1152921504606846976 < q
  · have hm : min 1152921504606846977 q = 1152921504606846977 := by omega
    rw [hm]
    have HR := HF.out
    rw [if_pos h] at HR
    have HR' := Lib.hid HR
    clear HR HF hm
    go_wp2_with fail
    go_ret2
    exact two_res HR'.out HB5.out
  · have hm : min 1152921504606846977 q = q := by omega
    rw [hm]
    have HR := HF.out
    rw [if_neg h] at HR
    have HR' := Lib.hid HR
    clear HR HF hm
    go_wp2_with fail
    go_ret2
    exact two_res HR'.out HB5.out
theorem r_mulDiv_any (a b c : Int) (ha : IsI64 a) (hb : IsI64 b) (hc : IsI64 c) (w : World) : Calls Try.prog 30 #[.int .i64 a, .int .i64 b, .int .i64 c] w (TwoRes (mdF a b c) w) := by
  by_cases h : a < 0 ∨ b < 0 ∨ c < 1
  · exact r_mulDiv_no a b c h w
  · obtain ⟨a, rfl⟩ := Int.eq_ofNat_of_zero_le (show 0 ≤ a by omega)
    obtain ⟨b, rfl⟩ := Int.eq_ofNat_of_zero_le (show 0 ≤ b by omega)
    obtain ⟨c, rfl⟩ := Int.eq_ofNat_of_zero_le (show 0 ≤ c by omega)
    obtain ⟨_, ha⟩ := ha
    obtain ⟨_, hb⟩ := hb
    obtain ⟨_, hc⟩ := hc
    exact r_mulDiv_yes a b c (by omega) (by omega) (by omega) (by omega) w

theorem r_share_any (a d t : Int) (ha : IsI64 a) (hd : IsI64 d) (ht : IsI64 t) (w : World) : Calls Try.prog 31 #[.int .i64 a, .int .i64 d, .int .i64 t] w (TwoRes (shareF a d t) w) := by
  by_cases h : d < 0 ∨ t < d
  · have HF := Lib.hid (show shareF a d t = (0, 1) from by unfold shareF; rw [if_pos h])
    rcases h with h | h
    · go_enter Try.func31, Try.ntmps31
      go_wp2_with fail
      go_ret2
      exact two_res HF.out (Below.refl _ _)
    · by_cases h2 : d < 0
      all_goals
        go_enter Try.func31, Try.ntmps31
        go_wp2_with fail
        go_ret2
        exact two_res HF.out (Below.refl _ _)
  · have HF := Lib.hid (show shareF a d t = mdF a d t from by unfold shareF; rw [if_neg h])
    have h1 : ¬ d < 0 := by omega
    have h2 : ¬ t < d := by omega
    clear h
    go_enter Try.func31, Try.ntmps31
    go_wp2_with fail
    refine (r_mulDiv_any a d t ha hd ht w).mono ?_
    rintro en w1 ⟨rfl, hb1⟩
    go_wp2_with fail
    go_ret2
    exact two_res HF.out hb1

theorem mdF_one {q p : Int} (hq : 0 ≤ q) (hp : 0 ≤ p) : mdF q p 1 = if 1152921504606846976 < q * p then (0, 12) else (q * p, 0) := by
  unfold mdF
  rw [if_neg (by omega), Int.ediv_one]
set_option maxHeartbeats 1000000 in
theorem r_worth_any (q p c : Int) (hq : IsI64 q) (hp : IsI64 p) (hc : IsI64 c) (w : World) : Calls Try.prog 32 #[.int .i64 q, .int .i64 p, .int .i64 c] w (TwoRes (worthF q p c) w) := by
  by_cases hw : wrongF q p c = true
  · have HF := Lib.hid (show worthF q p c = (0, 1) from by unfold worthF; rw [if_pos hw])
    by_cases h1 : q < 0
    · clear hw
      go_enter Try.func32, Try.ntmps32
      go_wp2_with fail
      go_ret2
      exact two_res HF.out (Below.refl _ _)
    · by_cases h2 : p < 0
      · clear hw
        go_enter Try.func32, Try.ntmps32
        go_wp2_with fail
        go_ret2
        exact two_res HF.out (Below.refl _ _)
      · by_cases h3 : c < 0
        · clear hw
          go_enter Try.func32, Try.ntmps32
          go_wp2_with fail
          go_ret2
          exact two_res HF.out (Below.refl _ _)
        · have h4 : 10000 < c := by simp [wrongF] at hw; omega
          clear hw
          go_enter Try.func32, Try.ntmps32
          go_wp2_with fail
          go_ret2
          exact two_res HF.out (Below.refl _ _)
  · have hw' : wrongF q p c = false := by simpa using hw
    have hr : 0 ≤ q ∧ 0 ≤ p ∧ 0 ≤ c ∧ c ≤ 10000 := by simp [wrongF] at hw'; omega
    obtain ⟨r1, r2, r3, r4⟩ := hr
    have H1 := Lib.hid (mdF_one r1 r2)
    have HI1 : Hid (IsI64 1) := Lib.hid (by unfold IsI64; omega)
    have HQ := Lib.hid hq
    have HP := Lib.hid hp
    have HC : Hid (IsI64 (10000 - c)) := Lib.hid (by unfold IsI64; omega)
    have HT : Hid (IsI64 10000) := Lib.hid (by unfold IsI64; omega)
    by_cases hov : 1152921504606846976 < q * p
    · have HF := Lib.hid (show worthF q p c = (0, 12) from by unfold worthF; rw [if_neg hw, if_pos hov])
      have HM := H1.out
      rw [if_pos hov] at HM
      have HM' := Lib.hid HM
      clear hw hw' HM hov hq hp hc
      go_enter Try.func32, Try.ntmps32
      go_wp2_with fail
      refine (r_mulDiv_any q p 1 HQ.out HP.out HI1.out w).mono ?_
      rw [HM'.out]
      rintro en w1 ⟨rfl, hb1⟩
      go_wp2_with fail
      go_ret2
      exact two_res HF.out hb1
    · have HF := Lib.hid (show worthF q p c = mdF (q * p) (10000 - c) 10000 from by unfold worthF; rw [if_neg hw, if_neg hov])
      have HM := H1.out
      rw [if_neg hov] at HM
      have HM' := Lib.hid HM
      have hn : 0 ≤ q * p := Int.mul_nonneg r1 r2
      generalize q * p = n at *
      have HN : Hid (IsI64 n) := Lib.hid (by unfold IsI64; omega)
      clear hw hw' HM hq hp hc
      go_enter Try.func32, Try.ntmps32
      go_wp2_with fail
      refine (r_mulDiv_any q p 1 HQ.out HP.out HI1.out w).mono ?_
      rw [HM'.out]
      rintro en w1 ⟨rfl, hb1⟩
      go_wp2_with fail
      refine (r_mulDiv_any n (10000 - c) 10000 HN.out HC.out HT.out w1).mono ?_
      rw [← HF.out]
      rintro en w2 ⟨rfl, hb2⟩
      go_wp2_with fail
      go_ret2
      exact ⟨rfl, hb1.trans (hb2.mono hb1.size)⟩
end Go.Proofs.Ytkokgdebahgbdaa
