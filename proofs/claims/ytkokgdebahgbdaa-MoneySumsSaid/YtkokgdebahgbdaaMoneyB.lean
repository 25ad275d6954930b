/-
  Contracts of money's MulDiv, Share, Worth.
-/
import Derived.Test.YtkokgdebahgbdaaDiv64
namespace Go.Proofs.Ytkokgdebahgbdaa
open Go.RowKit

theorem div64_any (hi lo y : Nat) (hlo : lo < 18446744073709551616) (hy : hi < y) (hy' : y < 9223372036854775808) (w : World) :
    Calls Try.prog 46 #[.int .u64 hi, .int .u64 lo, .int .u64 y] w (IsQuo ((hi * 18446744073709551616 + lo) / y) w) := by
  by_cases h : hi = 0
  · subst h
    have := div64_small lo y hlo (by omega) hy' w
    simpa using this
  · exact div64_big hi lo y hlo hy (by omega) hy' w

def mdF (a b c : Int) : Int × Int := if a < 0 ∨ b < 0 ∨ c < 1 then (0, 1) else if 1152921504606846976 < a * b / c then (0, 12) else (a * b / c, 0)
def TwoRes (p : Int × Int) (w : World) (e : Ending) (w' : World) : Prop := e = .returned (.tuple #[.int .i64 p.1, .int .i64 p.2]) ∧ Below w.heap.size w w'
theorem two_res {p : Int × Int} {w w' : World} {a b : Int} (h : p = (a, b)) (hb : Below w.heap.size w w') : TwoRes p w (.returned (.tuple #[.int .i64 a, .int .i64 b])) w' := by
  unfold TwoRes; rw [h]; exact ⟨rfl, hb⟩

theorem mulDiv_no (a b c : Int) (h : a < 0 ∨ b < 0 ∨ c < 1) (w : World) : Calls Try.prog 22 #[.int .i64 a, .int .i64 b, .int .i64 c] w (TwoRes (mdF a b c) w) := by
  have HF := Lib.hid (show mdF a b c = (0, 1) from by unfold mdF; rw [if_pos h])
  by_cases h1 : a < 0
  · go_enter Try.func22, Try.ntmps22
    go_wp2_with fail
    go_ret2
    exact two_res HF.out (Below.refl _ _)
  · by_cases h2 : b < 0
    · go_enter Try.func22, Try.ntmps22
      go_wp2_with fail
      go_ret2
      exact two_res HF.out (Below.refl _ _)
    · have h3 : c < 1 := by omega
      clear h
      go_enter Try.func22, Try.ntmps22
      go_wp2_with fail
      go_ret2
      exact two_res HF.out (Below.refl _ _)

theorem mulDiv_yes (a b c : Nat) (ha : a ≤ 9223372036854775807) (hb : b ≤ 9223372036854775807) (hc1 : 1 ≤ c) (hc : c ≤ 9223372036854775807) (w : World) :
    Calls Try.prog 22 #[.int .i64 a, .int .i64 b, .int .i64 c] w (TwoRes (mdF a b c) w) := by
  have hp : ((a : Int) * (b : Int)) / (c : Int) = ((a * b / c : Nat) : Int) := by rw [← Int.natCast_mul]; rfl
  have hf : mdF a b c = if 1152921504606846976 < a * b / c then (0, 12) else (((a * b / c : Nat) : Int), 0) := by
    unfold mdF
    rw [if_neg (by omega), hp]
    by_cases h : 1152921504606846976 < a * b / c
    · rw [if_pos h, if_pos (by omega)]
    · rw [if_neg h, if_neg (by omega)]
  have HF := Lib.hid hf
  clear hf hp
  go_enter Try.func22, Try.ntmps22
  go_wp2_with fail
  refine (mul64_ex a b (by omega) (by omega) w).mono ?_
  rintro en w1 ⟨⟨hi, lo, rfl, hm, hl⟩, rfl⟩
  rw [← hm] at HF
  clear hm
  by_cases hbig : c ≤ hi
  · have hq : 1152921504606846976 < (hi * 18446744073709551616 + lo) / c := by
      have : 18446744073709551616 ≤ (hi * 18446744073709551616 + lo) / c := by
        rw [Nat.le_div_iff_mul_le (by omega)]
        have := Nat.mul_le_mul_right 18446744073709551616 hbig
        omega
      omega
    have HF' := Lib.hid (HF.out.trans (if_pos hq))
    have hbi : (c : Int) ≤ (hi : Int) := by omega
    have hbj : ¬ (hi : Int) < (c : Int) := by omega
    clear hq HF
    go_wp2_with fail
    go_ret2
    exact two_res HF'.out (Below.refl _ _)
  · have hbi : ¬ (c : Int) ≤ (hi : Int) := by omega
    have hbj : (hi : Int) < (c : Int) := by omega
    go_wp2_with fail
    refine (div64_any hi lo c hl (by omega) (by omega) w).mono ?_
    rintro en w1 ⟨r, rfl, nq, rfl⟩
    have hqb : (hi * 18446744073709551616 + lo) / c < 18446744073709551616 := by
      rw [Nat.div_lt_iff_lt_mul (by omega)]
      have := Nat.mul_le_mul_left 18446744073709551616 (show hi + 1 ≤ c by omega)
      omega
    generalize (hi * 18446744073709551616 + lo) / c = q at *
    by_cases hq : 1152921504606846976 < q
    · have HF' := Lib.hid (HF.out.trans (if_pos hq))
      have hqi : (1152921504606846976 : Int) < (q : Int) := by omega
      have hqj : ¬ (q : Int) ≤ (1152921504606846976 : Int) := by omega
      clear HF
      go_wp2_with fail
      go_ret2
      exact two_res HF'.out (below_drewN (Below.refl _ _) _)
    · have HF' := Lib.hid (HF.out.trans (if_neg hq))
      have hqi : ¬ (1152921504606846976 : Int) < (q : Int) := by omega
      have hqj : (q : Int) ≤ (1152921504606846976 : Int) := by omega
      clear HF
      go_wp2_with fail
      go_ret2
      exact two_res HF'.out (below_drewN (Below.refl _ _) _)

theorem mulDiv_any (a b c : Int) (ha : IsI64 a) (hb : IsI64 b) (hc : IsI64 c) (w : World) : Calls Try.prog 22 #[.int .i64 a, .int .i64 b, .int .i64 c] w (TwoRes (mdF a b c) w) := by
  by_cases h : a < 0 ∨ b < 0 ∨ c < 1
  · exact mulDiv_no a b c h w
  · obtain ⟨a, rfl⟩ := Int.eq_ofNat_of_zero_le (show 0 ≤ a by omega)
    obtain ⟨b, rfl⟩ := Int.eq_ofNat_of_zero_le (show 0 ≤ b by omega)
    obtain ⟨c, rfl⟩ := Int.eq_ofNat_of_zero_le (show 0 ≤ c by omega)
    obtain ⟨_, ha⟩ := ha
    obtain ⟨_, hb⟩ := hb
    obtain ⟨_, hc⟩ := hc
    exact mulDiv_yes a b c (by omega) (by omega) (by omega) (by omega) w
theorem mdF_bound (a b c : Int) : 0 ≤ (mdF a b c).1 ∧ (mdF a b c).1 ≤ 1152921504606846976 ∧ 0 ≤ (mdF a b c).2 ∧ (mdF a b c).2 ≤ 12 := by
  unfold mdF
  by_cases h : a < 0 ∨ b < 0 ∨ c < 1
  · rw [if_pos h]; decide
  · rw [if_neg h]
    have hp : 0 ≤ a * b / c := Int.ediv_nonneg (Int.mul_nonneg (by omega) (by omega)) (by omega)
    by_cases h2 : 1152921504606846976 < a * b / c
    · rw [if_pos h2]; decide
    · rw [if_neg h2]; exact ⟨hp, by omega, by simp, by simp⟩

def shareF (amount done total : Int) : Int × Int := if done < 0 ∨ total < done then (0, 1) else mdF amount done total
theorem share_any (a d t : Int) (ha : IsI64 a) (hd : IsI64 d) (ht : IsI64 t) (w : World) : Calls Try.prog 24 #[.int .i64 a, .int .i64 d, .int .i64 t] w (TwoRes (shareF a d t) w) := by
  by_cases h : d < 0 ∨ t < d
  · have HF := Lib.hid (show shareF a d t = (0, 1) from by unfold shareF; rw [if_pos h])
    rcases h with h | h
    · go_enter Try.func24, Try.ntmps24
      go_wp2_with fail
      go_ret2
      exact two_res HF.out (Below.refl _ _)
    · by_cases h2 : d < 0
      all_goals
        go_enter Try.func24, Try.ntmps24
        go_wp2_with fail
        go_ret2
        exact two_res HF.out (Below.refl _ _)
  · have HF := Lib.hid (show shareF a d t = mdF a d t from by unfold shareF; rw [if_neg h])
    have h1 : ¬ d < 0 := by omega
    have h2 : ¬ t < d := by omega
    clear h
    go_enter Try.func24, Try.ntmps24
    go_wp2_with fail
    refine (mulDiv_any a d t ha hd ht w).mono ?_
    rintro en w1 ⟨rfl, hb1⟩
    go_wp2_with fail
    go_ret2
    exact two_res HF.out hb1

def wrongF (n p c : Int) : Bool := decide (n < 0) || decide (p < 0) || decide (c < 0) || decide (10000 < c)
theorem wrong_any (n p c : Int) (w : World) : Calls Try.prog 47 #[.int .i64 n, .int .i64 p, .int .i64 c] w fun e w' => e = .returned (.bool (wrongF n p c)) ∧ w = w' := by
  by_cases h1 : n < 0
  · have HF := Lib.hid (show wrongF n p c = true from by simp [wrongF, h1])
    go_enter Try.func47, Try.ntmps47
    go_wp2_with fail
    go_ret
    exact ⟨ret_bool HF.out.symm, rfl⟩
  · by_cases h2 : p < 0
    · have HF := Lib.hid (show wrongF n p c = true from by simp [wrongF, h2])
      go_enter Try.func47, Try.ntmps47
      go_wp2_with fail
      go_ret
      exact ⟨ret_bool HF.out.symm, rfl⟩
    · by_cases h3 : c < 0
      · have HF := Lib.hid (show wrongF n p c = true from by simp [wrongF, h3])
        go_enter Try.func47, Try.ntmps47
        go_wp2_with fail
        go_ret
        exact ⟨ret_bool HF.out.symm, rfl⟩
      · by_cases h4 : 10000 < c
        · have HF := Lib.hid (show wrongF n p c = true from by simp [wrongF, h4])
          go_enter Try.func47, Try.ntmps47
          go_wp2_with fail
          go_ret
          exact ⟨ret_bool HF.out.symm, rfl⟩
        · have HF := Lib.hid (show wrongF n p c = false from by simp [wrongF]; omega)
          go_enter Try.func47, Try.ntmps47
          go_wp2_with fail
          go_ret
          exact ⟨ret_bool HF.out.symm, rfl⟩

def worthF (q p c : Int) : Int × Int := if wrongF q p c = true then (0, 1) else if 1152921504606846976 < q * p then (0, 12) else mdF (q * p) (10000 - c) 10000
theorem worth_any (q p c : Int) (hq : IsI64 q) (hp : IsI64 p) (hc : IsI64 c) (w : World) : Calls Try.prog 23 #[.int .i64 q, .int .i64 p, .int .i64 c] w (TwoRes (worthF q p c) w) := by
  by_cases hw : wrongF q p c = true
  · have HF := Lib.hid (show worthF q p c = (0, 1) from by unfold worthF; rw [if_pos hw])
    go_enter Try.func23, Try.ntmps23
    go_wp2_with fail
    refine (wrong_any q p c w).mono ?_
    rintro en w1 ⟨rfl, rfl⟩
    rw [hw]
    go_wp2_with fail
    go_ret2
    exact two_res HF.out (Below.refl _ _)
  · have hw' : wrongF q p c = false := by simpa using hw
    have hr : 0 ≤ q ∧ 0 ≤ p ∧ 0 ≤ c ∧ c ≤ 10000 := by simp [wrongF] at hw'; omega
    obtain ⟨r1, r2, r3, r4⟩ := hr
    have hz : worthF q p c = if 1152921504606846976 < q * p then (0, 12) else mdF (q * p) (10000 - c) 10000 := by unfold worthF; rw [if_neg hw]
    have hpos := natAbs_mul_pos (.inl ⟨r1, r2⟩)
    have hnn : 0 ≤ q * p := Int.mul_nonneg r1 r2
    by_cases hb : 1152921504606846976 < q * p
    · rw [if_pos hb] at hz
      have HF := Lib.hid hz
      have HW := Lib.hid hw'
      have HP := Lib.hid (show 1152921504606846976 < q.natAbs * p.natAbs from by omega)
      clear hz hpos hnn hb hw hw'
      go_enter Try.func23, Try.ntmps23
      go_wp2_with fail
      refine (wrong_any q p c w).mono ?_
      rintro en w1 ⟨rfl, rfl⟩
      rw [HW.out]
      go_wp2_with fail
      have hk := Blk.new w 26 #[.bool false]
      refine (mul_beyond _ q p hq hp HP.out _ (fun w' => (w.alloc (.cells #[.bool false] 26)).setCell ⟨w.heap.size, 0, none⟩ (.bool true) = w') (fun below => over_set _ false below _ hk)).mono ?_
      rintro en w2 ⟨rfl, hw2⟩
      have hk2 := hw2 ▸ hk.set_ 0 (.bool true)
      have hb2 : Below w.heap.size w w2 := hw2 ▸ ((Below.refl _ w).alloc (Nat.le_refl _) (.cells #[.bool false] 26)).setCell (p := ⟨w.heap.size, 0, none⟩) (Nat.le_refl _) (.bool true)
      have hc0 := hk2.cell 0
      simp at hc0
      clear hk hk2 hw2
      go_wp2_with fail
      go_ret2
      exact two_res HF.out hb2
    · rw [if_neg hb] at hz
      have HF := Lib.hid hz
      have HW := Lib.hid hw'
      have HP := Lib.hid (show q.natAbs * p.natAbs ≤ 1152921504606846976 from by omega)
      have hqp : IsI64 (q * p) := by unfold IsI64; omega
      clear hz hpos hw hw'
      go_enter Try.func23, Try.ntmps23
      go_wp2_with fail
      refine (wrong_any q p c w).mono ?_
      rintro en w1 ⟨rfl, rfl⟩
      rw [HW.out]
      go_wp2_with fail
      refine (mul_in _ q p hq hp HP.out _).mono ?_
      rintro en w2 ⟨rfl, rfl⟩
      generalize q * p = qp at *
      go_wp2_with fail
      refine (mulDiv_any qp (10000 - c) 10000 hqp (by unfold IsI64; omega) (by unfold IsI64; omega) _).mono ?_
      rintro en w2 ⟨rfl, hb2⟩
      have hb3 : Below w.heap.size w w2 := ((Below.refl _ w).alloc (Nat.le_refl _) (.cells #[.bool false] 26)).trans (hb2.mono (by simp))
      go_wp2_with fail
      go_ret2
      exact two_res HF.out hb3
end Go.Proofs.Ytkokgdebahgbdaa
