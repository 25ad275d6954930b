/-
  The contract of math/bits.Div64: the quotient of a number of two words by a number of one word, if it fits.
-/
import Derived.Test.YtkokgdebahgbdaaMoneyA
import Derived.Test.YtkokgdebahgbdaaDivPlain
import Derived.Test.YtkokgdebahgbdaaShelf
import Derived.Deep.QuietTactic
import Derived.BigQuiet
import Derived.RegionTactic
namespace Go.Proofs.Ytkokgdebahgbdaa
open Go.RowKit

/-- the quotient, whatever the rest -/
def IsQuo (q : Nat) (w : World) (e : Ending) (w' : World) : Prop := ∃ r : Int, e = .returned (.tuple #[.int .u64 q, .int .u64 r]) ∧ ∃ n, w.drewN n = w'

theorem lz64_any (y : Nat) (hy : 1 ≤ y) (hy' : y < 9223372036854775808) (w : World) :
    Calls Try.prog 52 #[.int .u64 y] w fun e w' => (∃ s : Nat, e = .returned (.int .i64 s) ∧ 1 ≤ s ∧ s ≤ 63 ∧ 9223372036854775808 ≤ y * 2 ^ s ∧ y * 2 ^ s < 18446744073709551616) ∧ w = w' := by
  refine (Try.bits_LeadingZeros64 y w (by omega) (by omega)).mono fun e w' h => ⟨?_, h.2.symm⟩
  obtain ⟨a, b, c, d⟩ := Div.bitLenAux_spec 64 y (by simp; omega) (by omega)
  have hb : Lib.bitLenAux 64 y ≤ 63 := by
    rcases Nat.lt_or_ge 63 (Lib.bitLenAux 64 y) with h1 | h1
    · have e1 : Lib.bitLenAux 64 y = 64 := by omega
      rw [e1] at c
      simp at c
      omega
    · exact h1
  have e0 : Lib.bitLen y = Lib.bitLenAux 64 y := rfl
  refine ⟨64 - Lib.bitLenAux 64 y, ?_, by omega, by omega, ?_, ?_⟩
  · rw [h.1, Int.toNat_natCast, e0]; congr 2; omega
  · have := Nat.mul_le_mul_right (2 ^ (64 - Lib.bitLenAux 64 y)) c
    rw [← Nat.pow_add] at this
    have e2 : Lib.bitLenAux 64 y - 1 + (64 - Lib.bitLenAux 64 y) = 63 := by omega
    rw [e2] at this
    omega
  · have hp : 0 < 2 ^ (64 - Lib.bitLenAux 64 y) := Nat.pow_pos (by omega)
    have := Nat.mul_lt_mul_of_pos_right d hp
    rw [← Nat.pow_add] at this
    have e2 : Lib.bitLenAux 64 y + (64 - Lib.bitLenAux 64 y) = 64 := by omega
    rw [e2] at this
    omega

theorem two_pow_cast (x s : Nat) : (x : Int) * 2 ^ s = ((x * 2 ^ s : Nat) : Int) := by rw [Int.natCast_mul, Int.natCast_pow]; rfl
theorem wrap_small (x : Nat) (h : x < 18446744073709551616) : IntKind.u64.wrap (x : Int) = (x : Int) := by rw [IntKind.wrap_u64]; omega
theorem and32 (x : Nat) (h : x < 18446744073709551616) : bits .and .u64 (x : Int) 4294967295 = ((x % 4294967296 : Nat) : Int) := by
  have := u64_and_nat x 4294967295 h (by omega)
  rw [show (x &&& 4294967295) = x % 4294967296 from Nat.and_two_pow_sub_one_eq_mod x 32] at this
  exact this

structure SetUp (hi lo y s Y y1 y0 H L a u u1 u0 : Nat) : Prop where
  r1 : IntKind.u64.wrap ((y : Int) * 2 ^ s) = (Y : Int)
  r2 : (Y : Int) / 4294967296 = (y1 : Int)
  r3 : bits .and .u64 (Y : Int) 4294967295 = (y0 : Int)
  r4 : IntKind.u64.wrap ((hi : Int) * 2 ^ s) = (H : Int)
  r5 : (lo : Int) / 2 ^ (64 - s) = (L : Int)
  r6 : bits .or .u64 (H : Int) (L : Int) = (a : Int)
  r7 : IntKind.u64.wrap ((lo : Int) * 2 ^ s) = (u : Int)
  r8 : (u : Int) / 4294967296 = (u1 : Int)
  r9 : bits .and .u64 (u : Int) 4294967295 = (u0 : Int)
  dig : Div.Dig a u1 y1 y0
  Ye : Y = y1 * 4294967296 + y0
  u0b : u0 < 4294967296
  tot : a * 18446744073709551616 + u1 * 4294967296 + u0 = (hi * 18446744073709551616 + lo) * 2 ^ s
  Ys : Y = y * 2 ^ s

theorem setUp (hi lo y s : Nat) (hlo : lo < 18446744073709551616) (hy : hi < y) (s1 : 1 ≤ s) (s2 : s ≤ 63) (t1 : 9223372036854775808 ≤ y * 2 ^ s) (t2 : y * 2 ^ s < 18446744073709551616) :
    ∃ Y y1 y0 H L a u u1 u0 : Nat, SetUp hi lo y s Y y1 y0 H L a u u1 u0 := by
  have hp : 0 < 2 ^ s := Nat.pow_pos (by omega)
  have hH : hi * 2 ^ s + 2 ^ s ≤ y * 2 ^ s := by
    have := Nat.mul_le_mul_right (2 ^ s) hy
    rw [Nat.succ_mul] at this
    exact this
  have hpq : 2 ^ (64 - s) * 2 ^ s = 18446744073709551616 := by rw [← Nat.pow_add, show 64 - s + s = 64 by omega]
  have hq : 0 < 2 ^ (64 - s) := Nat.pow_pos (by omega)
  have hL : lo / 2 ^ (64 - s) < 2 ^ s := by
    rw [Nat.div_lt_iff_lt_mul hq, Nat.mul_comm, hpq]; exact hlo
  have hlo2 : lo * 2 ^ s = lo / 2 ^ (64 - s) * 18446744073709551616 + lo % 2 ^ (64 - s) * 2 ^ s := by
    have := Nat.div_add_mod lo (2 ^ (64 - s))
    rw [← hpq, ← Nat.mul_assoc, ← Nat.add_mul, Nat.mul_comm (lo / _), this]
  have hr : lo % 2 ^ (64 - s) * 2 ^ s < 18446744073709551616 := by
    have := Nat.mod_lt lo hq
    have := Nat.mul_lt_mul_of_pos_right this hp
    rw [hpq] at this
    exact this
  have hu : lo * 2 ^ s % 18446744073709551616 = lo % 2 ^ (64 - s) * 2 ^ s := by rw [hlo2]; omega
  refine ⟨y * 2 ^ s, y * 2 ^ s / 4294967296, y * 2 ^ s % 4294967296, hi * 2 ^ s, lo / 2 ^ (64 - s), hi * 2 ^ s + lo / 2 ^ (64 - s), lo * 2 ^ s % 18446744073709551616, lo * 2 ^ s % 18446744073709551616 / 4294967296, lo * 2 ^ s % 18446744073709551616 % 4294967296, ?_⟩
  refine ⟨?_, by omega, and32 _ t2, ?_, ?_, ?_, ?_, by omega, and32 _ (by omega), ⟨by omega, by omega, by omega, by omega, by omega⟩, by omega, by omega, ?_, rfl⟩
  · rw [two_pow_cast, wrap_small _ t2]
  · rw [two_pow_cast, wrap_small _ (by omega)]
  · rw [Int.natCast_ediv, Int.natCast_pow]; rfl
  · rw [u64_or_nat _ _ (by omega) (by omega), nat_join s _ _ (Nat.mul_mod_left _ _) hL]
  · rw [two_pow_cast, IntKind.wrap_u64]; omega
  · rw [Nat.add_mul, Nat.add_mul, hlo2]
    have : hi * 18446744073709551616 * 2 ^ s = hi * 2 ^ s * 18446744073709551616 := by rw [Nat.mul_right_comm]
    omega

/-- the rest behind the first digit -/
theorem rest_of {a u1 Y Q : Nat} (hY : 0 < Y) (hY2 : Y < 18446744073709551616) (hQ : Q = (a * 4294967296 + u1) / Y) :
    ∃ A1 A2 A3 v : Nat, IntKind.u64.wrap ((a : Int) * 4294967296) = (A1 : Int) ∧ IntKind.u64.wrap ((A1 : Int) + (u1 : Int)) = (A2 : Int) ∧ IntKind.u64.wrap ((Q : Int) * (Y : Int)) = (A3 : Int) ∧
      IntKind.u64.wrap ((A2 : Int) - (A3 : Int)) = (v : Int) ∧ v = (a * 4294967296 + u1) % Y := by
  have hm := Nat.div_add_mod (a * 4294967296 + u1) Y
  have hlt := Nat.mod_lt (a * 4294967296 + u1) hY
  rw [← hQ, Nat.mul_comm] at hm
  refine ⟨a * 4294967296 % 18446744073709551616, (a * 4294967296 + u1) % 18446744073709551616, Q * Y % 18446744073709551616, _, by rw [IntKind.wrap_u64]; omega, by rw [IntKind.wrap_u64]; omega, ?_, ?_, rfl⟩
  · rw [← Int.natCast_mul, IntKind.wrap_u64]; rfl
  · rw [IntKind.wrap_u64]
    generalize Q * Y = Z at *
    omega
theorem quot_of {a y1 : Nat} (h : a < 18446744073709551616) (hy : 1 ≤ y1) : ∃ q z r : Nat, (a : Int) / (y1 : Int) = (q : Int) ∧ IntKind.u64.wrap (q : Int) = (q : Int) ∧ IntKind.u64.wrap ((q : Int) * (y1 : Int)) = (z : Int) ∧ IntKind.u64.wrap ((a : Int) - (z : Int)) = (r : Int) ∧ q = a / y1 ∧ r = a - a / y1 * y1 := by
  have hm := Nat.div_mul_le_self a y1
  have hq : a / y1 ≤ a := Nat.div_le_self _ _
  refine ⟨a / y1, a / y1 * y1, a - a / y1 * y1, rfl, wrap_small _ (by omega), ?_, ?_, rfl, rfl⟩
  · rw [← Int.natCast_mul, wrap_small _ (by omega)]
  · rw [← Int.natCast_sub hm, wrap_small _ (by omega)]

theorem round_of {q r u1 y1 : Nat} (hq : 1 ≤ q) :
    ∃ p p2 q2 r2 : Nat, 4294967296 * (r : Int) = (p : Int) ∧ (p : Int) + (u1 : Int) = (p2 : Int) ∧ (q : Int) - 1 = (q2 : Int) ∧ (r : Int) + (y1 : Int) = (r2 : Int) ∧
      p2 = 4294967296 * r + u1 ∧ q2 = q - 1 ∧ r2 = r + y1 :=
  ⟨4294967296 * r, 4294967296 * r + u1, q - 1, r + y1, by omega, by omega, by omega, by omega, rfl, rfl, rfl⟩
theorem prod_of {q y0 : Nat} (hy0 : y0 < 4294967296) (hq : q < 4294967296) : ∃ m : Nat, IntKind.u64.wrap ((q : Int) * (y0 : Int)) = (m : Int) ∧ m = q * y0 := by
  have := Nat.mul_le_mul (show q ≤ 4294967295 by omega) (show y0 ≤ 4294967295 by omega)
  exact ⟨_, by rw [← Int.natCast_mul, wrap_small _ (by omega)], rfl⟩

theorem div64_small (lo y : Nat) (hlo : lo < 18446744073709551616) (hy : 1 ≤ y) (hy' : y < 9223372036854775808) (w : World) :
    Calls Try.prog 46 #[.int .u64 0, .int .u64 lo, .int .u64 y] w (IsQuo (lo / y) w) := by
  have h0 : ((y : Int) == 0) = false := by simp; omega
  have hw : IntKind.u64.wrap ((lo : Int) / (y : Int)) = ((lo / y : Nat) : Int) := by
    have hq : lo / y ≤ lo := Nat.div_le_self _ _
    exact wrap_small (lo / y) (by omega)
  have HW := Lib.hid hw
  clear hw
  go_enter Try.func46, Try.ntmps46
  go_wp2_with fail
  go_quiet (fail)
  go_wp2_with fail
  rw [HW.out]
  go_ret2
  exact ⟨_, rfl, _, rfl⟩

theorem last_of {hi lo y s Y y1 y0 H L a u u1 u0 Q1 v Q0 : Nat} (S : SetUp hi lo y s Y y1 y0 H L a u u1 u0) (hy : 1 ≤ y) (h1 : Q1 = (a * 4294967296 + u1) / Y) (hv : v = (a * 4294967296 + u1) % Y)
    (h0 : Q0 = (v * 4294967296 + u0) / (y1 * 4294967296 + y0)) (hlt : hi < y ∧ lo < 18446744073709551616) :
    ∃ F1 : Nat, IntKind.u64.wrap ((Q1 : Int) * 4294967296) = (F1 : Int) ∧ (Q1 : Int) * 4294967296 = (F1 : Int) ∧ IntKind.u64.wrap ((F1 : Int) + (Q0 : Int)) = (((hi * 18446744073709551616 + lo) / y : Nat) : Int) := by
  have hp : 0 < 2 ^ s := Nat.pow_pos (by omega)
  have hY : 0 < Y := by rw [S.Ys]; exact Nat.mul_pos hy hp
  have ht := Div.two (a := a) (u1 := u1) (u0 := u0) hY
  rw [← h1, ← hv, S.tot, S.Ys, Nat.mul_div_mul_right _ _ hp, ← S.Ys] at ht
  rw [← S.Ye] at h0
  rw [← h0] at ht
  have hq : (hi * 18446744073709551616 + lo) / y < 18446744073709551616 := by
    rw [Nat.div_lt_iff_lt_mul (by omega)]
    have := Nat.mul_le_mul_left 18446744073709551616 hlt.1
    omega
  refine ⟨Q1 * 4294967296, ?_, by omega, ?_⟩
  · rw [IntKind.wrap_u64]; omega
  · rw [IntKind.wrap_u64]; omega

set_option maxHeartbeats 4000000 in
set_option maxRecDepth 100000 in
theorem div64_big (hi lo y : Nat) (hlo : lo < 18446744073709551616) (hy : hi < y) (hh : 1 ≤ hi) (hy' : y < 9223372036854775808) (w : World) :
    Calls Try.prog 46 #[.int .u64 hi, .int .u64 lo, .int .u64 y] w (IsQuo ((hi * 18446744073709551616 + lo) / y) w) := by
  have h0 : ((y : Int) == 0) = false := by simp; omega
  have h1 : ((hi : Int) == 0) = false := by simp; omega
  go_enter Try.func46, Try.ntmps46
  go_wp2_with fail
  refine (lz64_any y (by omega) hy' w).mono ?_
  rintro e w' ⟨⟨s, rfl, s1, s2, t1, t2⟩, rfl⟩
  obtain ⟨Y, y1, y0, H, L, a, u, u1, u0, S⟩ := setUp hi lo y s hlo hy s1 s2 t1 t2
  have hd := S.dig
  obtain ⟨hu1, hy1, hy1', hy0, ha⟩ := id hd
  have hYe := S.Ye
  obtain ⟨q, z, r, e1, e2, e3, e4, hq, hr⟩ := quot_of (a := a) (y1 := y1) (by omega) (by omega)
  have E1 := Lib.hid e1
  have E2 := Lib.hid e2
  have E3 := Lib.hid e3
  have E4 := Lib.hid e4
  have HD := Lib.hid hd
  have HYE := Lib.hid hYe
  have hat : Div.At a u1 y1 y0 q r := by rw [hq, hr]; exact Div.start hd
  have HAT := Lib.hid hat
  clear t1 t2 e1 e2 e3 e4 hd hYe hq hr hat
  go_wp2_with (first | rw [S.r1] | rw [S.r2] | rw [S.r3] | rw [S.r4] | rw [S.r5] | rw [S.r6] | rw [S.r7] | rw [S.r8] | rw [S.r9] | rw [E1.out] | rw [E2.out] | rw [E3.out] | rw [E4.out])
  have HS := Lib.hid S
  have hYlt : Y < 18446744073709551616 := by have := HYE.out; omega
  have hu0 := S.u0b
  have hY0 : 1 ≤ y := by omega
  have HS := Lib.hid S
  have hYlt : Y < 18446744073709551616 := by have := HYE.out; omega
  have hu0 := S.u0b
  have hY0 : 1 ≤ y := by omega
  have HS := Lib.hid S
  have hYlt : Y < 18446744073709551616 := by have := HYE.out; omega
  have hu0 := S.u0b
  have hY0 : 1 ≤ y := by omega
  have HS := Lib.hid S
  have hYlt : Y < 18446744073709551616 := by have := HYE.out; omega
  have hu0 := S.u0b
  have hY0 : 1 ≤ y := by omega
  have HS := Lib.hid S
  have hYlt : Y < 18446744073709551616 := by have := HYE.out; omega
  have hu0 := S.u0b
  have hY0 : 1 ≤ y := by omega
  have HS := Lib.hid S
  have hYlt : Y < 18446744073709551616 := by have := HYE.out; omega
  have hu0 := S.u0b
  have hY0 : 1 ≤ y := by omega
  have HS := Lib.hid S
  have hYlt : Y < 18446744073709551616 := by have := HYE.out; omega
  have hu0 := S.u0b
  have hY0 : 1 ≤ y := by omega
  go_loop [15, 16] (fun qv rv => ∃ q r : Nat, qv = .int .u64 q ∧ rv = .int .u64 r ∧ Div.At a u1 y1 y0 q r) (fun qv _ => (intOf qv).toNat)
  case atStart => exact ⟨q, r, rfl, rfl, HAT.out⟩
  case round =>
    obtain ⟨q', r', rfl, rfl, hat⟩ := hrel
    have hsm := hat.small HD.out
    have hrl := hat.lt
    have HAT := Lib.hid hat
    clear hat
    by_cases hyes : 4294967296 ≤ q' ∨ 4294967296 * r' + u1 < q' * y0
    · have hq1 : 1 ≤ q' := by
        rcases Nat.eq_zero_or_pos q' with h0 | h0
        · subst h0; simp at hyes
        · exact h0
      obtain ⟨p, p2, q2, r2, w1, w2, w3, w4, hp2, hq2, hr2⟩ := round_of (r := r') (u1 := u1) (y1 := y1) hq1
      have W1 := Lib.hid w1
      have W2 := Lib.hid w2
      have W3 := Lib.hid w3
      have W4 := Lib.hid w4
      have W5 : Hid (IntKind.u64.wrap (p2 : Int) = (p2 : Int)) := wrap_small p2 (by omega)
      clear w1 w2 w3 w4
      have HYES := Lib.hid hyes
      by_cases hc : 4294967296 ≤ q'
      · have hci : ¬ (q' : Int) < 4294967296 := by omega
        have hcj : 4294967296 ≤ (q' : Int) := by omega
        have WM : Hid (IntKind.u64.wrap ((q' : Int) * (y0 : Int)) = IntKind.u64.wrap ((q' : Int) * (y0 : Int))) := rfl
        clear hyes WM hp2
        have WM := W1
        by_cases hbr : r2 < 4294967296
        · have hbi : (r2 : Int) < 4294967296 := by omega
          have hbj : ¬ 4294967296 ≤ (r2 : Int) := by omega
          have hn := HAT.out.next HD.out HYES.out (by omega)
          rw [← hq2, ← hr2] at hn
          have HN := Lib.hid hn
          have hq2lt : q2 < q' := by omega
          clear hn hq2 hr2
          go_wp2_with (first | rw [W1.out] | rw [W2.out] | rw [W3.out] | rw [W4.out] | rw [W5.out] | rw [WM.out])
          go_round
          case rel => exact ⟨q2, r2, rfl, rfl, HN.out⟩
          case measure => simp [intOf]; omega
        · have hbi : ¬ (r2 : Int) < 4294967296 := by omega
          have hbj : 4294967296 ≤ (r2 : Int) := by omega
          have hQ := HAT.out.last HD.out HYES.out (by omega)
          rw [← hq2] at hQ
          have HQ := Lib.hid hQ
          clear hQ hq2 hr2
          have HQ1 : Hid (q2 = (a * 4294967296 + u1) / Y) := by
            show q2 = (a * 4294967296 + u1) / Y
            rw [HYE.out]; exact HQ.out
          obtain ⟨A1, A2, A3, v, g1, g2, g3, g4, hv⟩ := rest_of (a := a) (u1 := u1) (Y := Y) (Q := q2) (by have := HYE.out; omega) hYlt HQ1.out
          have hvY : v < Y := by rw [hv]; exact Nat.mod_lt _ (by have := HYE.out; omega)
          have hd2 : Div.Dig v u0 y1 y0 := ⟨hu0, hy1, hy1', hy0, by have := HYE.out; omega⟩
          obtain ⟨q3, z3, r3, e1, e2, e3, e4, hq3, hr3⟩ := quot_of (a := v) (y1 := y1) (by omega) (by omega)
          have hat2 : Div.At v u0 y1 y0 q3 r3 := by rw [hq3, hr3]; exact Div.start hd2
          have HD2 := Lib.hid hd2
          have HAT2 := Lib.hid hat2
          have HV := Lib.hid hv
          have G1 := Lib.hid g1
          have G2 := Lib.hid g2
          have G3 := Lib.hid g3
          have G4 := Lib.hid g4
          have E1' := Lib.hid e1
          have E2' := Lib.hid e2
          have E3' := Lib.hid e3
          have E4' := Lib.hid e4
          clear g1 g2 g3 g4 e1 e2 e3 e4 hd2 hat2 hv hq3 hr3
          go_wp2_with (first | rw [W1.out] | rw [W2.out] | rw [W3.out] | rw [W4.out] | rw [W5.out] | rw [WM.out] | rw [G1.out] | rw [G2.out] | rw [G3.out] | rw [G4.out] | rw [E1'.out] | rw [E2'.out] | rw [E3'.out] | rw [E4'.out])
          clear W1 W2 W3 W4 W5 WM HAT HQ hci
          go_loop [16, 18] (fun rv qv => ∃ r q : Nat, qv = .int .u64 q ∧ rv = .int .u64 r ∧ Div.At v u0 y1 y0 q r) (fun _ qv => (intOf qv).toNat)
          case atStart => exact ⟨r3, q3, rfl, rfl, HAT2.out⟩
          case round =>
            obtain ⟨r', q', rfl, rfl, hat⟩ := hrel
            have hsm := hat.small HD2.out
            have hrl := hat.lt
            have HAT := Lib.hid hat
            clear hat
            by_cases hyes : 4294967296 ≤ q' ∨ 4294967296 * r' + u0 < q' * y0
            · have hq1 : 1 ≤ q' := by
                rcases Nat.eq_zero_or_pos q' with h0 | h0
                · subst h0; simp at hyes
                · exact h0
              obtain ⟨p, p2, q2, r2, w1, w2, w3, w4, hp2, hq2, hr2⟩ := round_of (r := r') (u1 := u0) (y1 := y1) hq1
              have W1 := Lib.hid w1
              have W2 := Lib.hid w2
              have W3 := Lib.hid w3
              have W4 := Lib.hid w4
              have W5 : Hid (IntKind.u64.wrap (p2 : Int) = (p2 : Int)) := wrap_small p2 (by omega)
              clear w1 w2 w3 w4
              have HYES := Lib.hid hyes
              by_cases hc : 4294967296 ≤ q'
              · have hci : ¬ (q' : Int) < 4294967296 := by omega
                have hcj : 4294967296 ≤ (q' : Int) := by omega
                have WM : Hid (IntKind.u64.wrap ((q' : Int) * (y0 : Int)) = IntKind.u64.wrap ((q' : Int) * (y0 : Int))) := rfl
                clear hyes WM hp2
                have WM := W1
                by_cases hbr : r2 < 4294967296
                · have hbi : (r2 : Int) < 4294967296 := by omega
                  have hbj : ¬ 4294967296 ≤ (r2 : Int) := by omega
                  have hn := HAT.out.next HD2.out HYES.out (by omega)
                  rw [← hq2, ← hr2] at hn
                  have HN := Lib.hid hn
                  have hq2lt : q2 < q' := by omega
                  clear hn hq2 hr2
                  go_wp2_with (first | rw [W1.out] | rw [W2.out] | rw [W3.out] | rw [W4.out] | rw [W5.out] | rw [WM.out])
                  go_round
                  case rel => exact ⟨r2, q2, rfl, rfl, HN.out⟩
                  case measure => simp [intOf]; omega
                · have hbi : ¬ (r2 : Int) < 4294967296 := by omega
                  have hbj : 4294967296 ≤ (r2 : Int) := by omega
                  have hQ := HAT.out.last HD2.out HYES.out (by omega)
                  rw [← hq2] at hQ
                  have HQ := Lib.hid hQ
                  clear hQ hq2 hr2
                  obtain ⟨F1, f1, f3, f2⟩ := last_of HS.out hY0 HQ1.out HV.out HQ.out (by omega)
                  have F1' := Lib.hid f1
                  have F2' := Lib.hid f2
                  have F3' := Lib.hid f3
                  clear f1 f2 f3
                  go_wp2_with (first | rw [W1.out] | rw [W2.out] | rw [W3.out] | rw [W4.out] | rw [W5.out] | rw [WM.out] | rw [F1'.out] | rw [F2'.out] | rw [F3'.out])
                  go_ret2
                  exact ⟨_, rfl, 0, rfl⟩
              · have hci : (q' : Int) < 4294967296 := by omega
                have hcj : ¬ 4294967296 ≤ (q' : Int) := by omega
                obtain ⟨m, wm, hm⟩ := prod_of (q := q') hy0 (by omega)
                have WM := Lib.hid wm
                rw [← hm] at hyes
                have hlt : (p2 : Int) < (m : Int) := by omega
                have hlt2 : ¬ (m : Int) ≤ (p2 : Int) := by omega
                clear wm hyes
                have HM := Lib.hid hm
                have HP2 := Lib.hid hp2
                clear hm hp2
                by_cases hbr : r2 < 4294967296
                · have hbi : (r2 : Int) < 4294967296 := by omega
                  have hbj : ¬ 4294967296 ≤ (r2 : Int) := by omega
                  have hn := HAT.out.next HD2.out HYES.out (by omega)
                  rw [← hq2, ← hr2] at hn
                  have HN := Lib.hid hn
                  have hq2lt : q2 < q' := by omega
                  clear hn hq2 hr2
                  go_wp2_with (first | rw [W1.out] | rw [W2.out] | rw [W3.out] | rw [W4.out] | rw [W5.out] | rw [WM.out])
                  go_round
                  case rel => exact ⟨r2, q2, rfl, rfl, HN.out⟩
                  case measure => simp [intOf]; omega
                · have hbi : ¬ (r2 : Int) < 4294967296 := by omega
                  have hbj : 4294967296 ≤ (r2 : Int) := by omega
                  have hQ := HAT.out.last HD2.out HYES.out (by omega)
                  rw [← hq2] at hQ
                  have HQ := Lib.hid hQ
                  clear hQ hq2 hr2
                  obtain ⟨F1, f1, f3, f2⟩ := last_of HS.out hY0 HQ1.out HV.out HQ.out (by omega)
                  have F1' := Lib.hid f1
                  have F2' := Lib.hid f2
                  have F3' := Lib.hid f3
                  clear f1 f2 f3
                  go_wp2_with (first | rw [W1.out] | rw [W2.out] | rw [W3.out] | rw [W4.out] | rw [W5.out] | rw [WM.out] | rw [F1'.out] | rw [F2'.out] | rw [F3'.out])
                  go_ret2
                  exact ⟨_, rfl, 0, rfl⟩
            · have hci : (q' : Int) < 4294967296 := by omega
              have hcj : ¬ 4294967296 ≤ (q' : Int) := by omega
              obtain ⟨m, wm, hm⟩ := prod_of (q := q') hy0 (by omega)
              have WM := Lib.hid wm
              have hQ := HAT.out.stop HD2.out (by omega)
              have HQ := Lib.hid hQ
              obtain ⟨p, p2, w1, w2, hp2⟩ : ∃ p p2 : Nat, 4294967296 * (r' : Int) = (p : Int) ∧ (p : Int) + (u0 : Int) = (p2 : Int) ∧ p2 = 4294967296 * r' + u0 :=
                ⟨4294967296 * r', 4294967296 * r' + u0, by omega, by omega, rfl⟩
              have W1 := Lib.hid w1
              have W2 := Lib.hid w2
              have W3 := W1
              have W4 := W1
              have W5 : Hid (IntKind.u64.wrap (p2 : Int) = (p2 : Int)) := wrap_small p2 (by omega)
              rw [← hm, ← hp2] at hyes
              have hle : (m : Int) ≤ (p2 : Int) := by omega
              have hle2 : ¬ (p2 : Int) < (m : Int) := by omega
              have hlq : q' < 4294967296 := by omega
              have HM := Lib.hid hm
              have HP2 := Lib.hid hp2
              clear hm hp2 hyes hQ w1 w2 wm
              obtain ⟨F1, f1, f3, f2⟩ := last_of HS.out hY0 HQ1.out HV.out HQ.out (by omega)
              have F1' := Lib.hid f1
              have F2' := Lib.hid f2
              have F3' := Lib.hid f3
              clear f1 f2 f3
              go_wp2_with (first | rw [W1.out] | rw [W2.out] | rw [W3.out] | rw [W4.out] | rw [W5.out] | rw [WM.out] | rw [F1'.out] | rw [F2'.out] | rw [F3'.out])
              go_ret2
              exact ⟨_, rfl, 0, rfl⟩
      · have hci : (q' : Int) < 4294967296 := by omega
        have hcj : ¬ 4294967296 ≤ (q' : Int) := by omega
        obtain ⟨m, wm, hm⟩ := prod_of (q := q') hy0 (by omega)
        have WM := Lib.hid wm
        rw [← hm] at hyes
        have hlt : (p2 : Int) < (m : Int) := by omega
        have hlt2 : ¬ (m : Int) ≤ (p2 : Int) := by omega
        clear wm hyes
        have HM := Lib.hid hm
        have HP2 := Lib.hid hp2
        clear hm hp2
        by_cases hbr : r2 < 4294967296
        · have hbi : (r2 : Int) < 4294967296 := by omega
          have hbj : ¬ 4294967296 ≤ (r2 : Int) := by omega
          have hn := HAT.out.next HD.out HYES.out (by omega)
          rw [← hq2, ← hr2] at hn
          have HN := Lib.hid hn
          have hq2lt : q2 < q' := by omega
          clear hn hq2 hr2
          go_wp2_with (first | rw [W1.out] | rw [W2.out] | rw [W3.out] | rw [W4.out] | rw [W5.out] | rw [WM.out])
          go_round
          case rel => exact ⟨q2, r2, rfl, rfl, HN.out⟩
          case measure => simp [intOf]; omega
        · have hbi : ¬ (r2 : Int) < 4294967296 := by omega
          have hbj : 4294967296 ≤ (r2 : Int) := by omega
          have hQ := HAT.out.last HD.out HYES.out (by omega)
          rw [← hq2] at hQ
          have HQ := Lib.hid hQ
          clear hQ hq2 hr2
          have HQ1 : Hid (q2 = (a * 4294967296 + u1) / Y) := by
            show q2 = (a * 4294967296 + u1) / Y
            rw [HYE.out]; exact HQ.out
          obtain ⟨A1, A2, A3, v, g1, g2, g3, g4, hv⟩ := rest_of (a := a) (u1 := u1) (Y := Y) (Q := q2) (by have := HYE.out; omega) hYlt HQ1.out
          have hvY : v < Y := by rw [hv]; exact Nat.mod_lt _ (by have := HYE.out; omega)
          have hd2 : Div.Dig v u0 y1 y0 := ⟨hu0, hy1, hy1', hy0, by have := HYE.out; omega⟩
          obtain ⟨q3, z3, r3, e1, e2, e3, e4, hq3, hr3⟩ := quot_of (a := v) (y1 := y1) (by omega) (by omega)
          have hat2 : Div.At v u0 y1 y0 q3 r3 := by rw [hq3, hr3]; exact Div.start hd2
          have HD2 := Lib.hid hd2
          have HAT2 := Lib.hid hat2
          have HV := Lib.hid hv
          have G1 := Lib.hid g1
          have G2 := Lib.hid g2
          have G3 := Lib.hid g3
          have G4 := Lib.hid g4
          have E1' := Lib.hid e1
          have E2' := Lib.hid e2
          have E3' := Lib.hid e3
          have E4' := Lib.hid e4
          clear g1 g2 g3 g4 e1 e2 e3 e4 hd2 hat2 hv hq3 hr3
          go_wp2_with (first | rw [W1.out] | rw [W2.out] | rw [W3.out] | rw [W4.out] | rw [W5.out] | rw [WM.out] | rw [G1.out] | rw [G2.out] | rw [G3.out] | rw [G4.out] | rw [E1'.out] | rw [E2'.out] | rw [E3'.out] | rw [E4'.out])
          clear W1 W2 W3 W4 W5 WM HAT HQ hci
          go_loop [16, 18] (fun rv qv => ∃ r q : Nat, qv = .int .u64 q ∧ rv = .int .u64 r ∧ Div.At v u0 y1 y0 q r) (fun _ qv => (intOf qv).toNat)
          case atStart => exact ⟨r3, q3, rfl, rfl, HAT2.out⟩
          case round =>
            obtain ⟨r', q', rfl, rfl, hat⟩ := hrel
            have hsm := hat.small HD2.out
            have hrl := hat.lt
            have HAT := Lib.hid hat
            clear hat
            by_cases hyes : 4294967296 ≤ q' ∨ 4294967296 * r' + u0 < q' * y0
            · have hq1 : 1 ≤ q' := by
                rcases Nat.eq_zero_or_pos q' with h0 | h0
                · subst h0; simp at hyes
                · exact h0
              obtain ⟨p, p2, q2, r2, w1, w2, w3, w4, hp2, hq2, hr2⟩ := round_of (r := r') (u1 := u0) (y1 := y1) hq1
              have W1 := Lib.hid w1
              have W2 := Lib.hid w2
              have W3 := Lib.hid w3
              have W4 := Lib.hid w4
              have W5 : Hid (IntKind.u64.wrap (p2 : Int) = (p2 : Int)) := wrap_small p2 (by omega)
              clear w1 w2 w3 w4
              have HYES := Lib.hid hyes
              by_cases hc : 4294967296 ≤ q'
              · have hci : ¬ (q' : Int) < 4294967296 := by omega
                have hcj : 4294967296 ≤ (q' : Int) := by omega
                have WM : Hid (IntKind.u64.wrap ((q' : Int) * (y0 : Int)) = IntKind.u64.wrap ((q' : Int) * (y0 : Int))) := rfl
                clear hyes WM hp2
                have WM := W1
                by_cases hbr : r2 < 4294967296
                · have hbi : (r2 : Int) < 4294967296 := by omega
                  have hbj : ¬ 4294967296 ≤ (r2 : Int) := by omega
                  have hn := HAT.out.next HD2.out HYES.out (by omega)
                  rw [← hq2, ← hr2] at hn
                  have HN := Lib.hid hn
                  have hq2lt : q2 < q' := by omega
                  clear hn hq2 hr2
                  go_wp2_with (first | rw [W1.out] | rw [W2.out] | rw [W3.out] | rw [W4.out] | rw [W5.out] | rw [WM.out])
                  go_round
                  case rel => exact ⟨r2, q2, rfl, rfl, HN.out⟩
                  case measure => simp [intOf]; omega
                · have hbi : ¬ (r2 : Int) < 4294967296 := by omega
                  have hbj : 4294967296 ≤ (r2 : Int) := by omega
                  have hQ := HAT.out.last HD2.out HYES.out (by omega)
                  rw [← hq2] at hQ
                  have HQ := Lib.hid hQ
                  clear hQ hq2 hr2
                  obtain ⟨F1, f1, f3, f2⟩ := last_of HS.out hY0 HQ1.out HV.out HQ.out (by omega)
                  have F1' := Lib.hid f1
                  have F2' := Lib.hid f2
                  have F3' := Lib.hid f3
                  clear f1 f2 f3
                  go_wp2_with (first | rw [W1.out] | rw [W2.out] | rw [W3.out] | rw [W4.out] | rw [W5.out] | rw [WM.out] | rw [F1'.out] | rw [F2'.out] | rw [F3'.out])
                  go_ret2
                  exact ⟨_, rfl, 0, rfl⟩
              · have hci : (q' : Int) < 4294967296 := by omega
                have hcj : ¬ 4294967296 ≤ (q' : Int) := by omega
                obtain ⟨m, wm, hm⟩ := prod_of (q := q') hy0 (by omega)
                have WM := Lib.hid wm
                rw [← hm] at hyes
                have hlt : (p2 : Int) < (m : Int) := by omega
                have hlt2 : ¬ (m : Int) ≤ (p2 : Int) := by omega
                clear wm hyes
                have HM := Lib.hid hm
                have HP2 := Lib.hid hp2
                clear hm hp2
                by_cases hbr : r2 < 4294967296
                · have hbi : (r2 : Int) < 4294967296 := by omega
                  have hbj : ¬ 4294967296 ≤ (r2 : Int) := by omega
                  have hn := HAT.out.next HD2.out HYES.out (by omega)
                  rw [← hq2, ← hr2] at hn
                  have HN := Lib.hid hn
                  have hq2lt : q2 < q' := by omega
                  clear hn hq2 hr2
                  go_wp2_with (first | rw [W1.out] | rw [W2.out] | rw [W3.out] | rw [W4.out] | rw [W5.out] | rw [WM.out])
                  go_round
                  case rel => exact ⟨r2, q2, rfl, rfl, HN.out⟩
                  case measure => simp [intOf]; omega
                · have hbi : ¬ (r2 : Int) < 4294967296 := by omega
                  have hbj : 4294967296 ≤ (r2 : Int) := by omega
                  have hQ := HAT.out.last HD2.out HYES.out (by omega)
                  rw [← hq2] at hQ
                  have HQ := Lib.hid hQ
                  clear hQ hq2 hr2
                  obtain ⟨F1, f1, f3, f2⟩ := last_of HS.out hY0 HQ1.out HV.out HQ.out (by omega)
                  have F1' := Lib.hid f1
                  have F2' := Lib.hid f2
                  have F3' := Lib.hid f3
                  clear f1 f2 f3
                  go_wp2_with (first | rw [W1.out] | rw [W2.out] | rw [W3.out] | rw [W4.out] | rw [W5.out] | rw [WM.out] | rw [F1'.out] | rw [F2'.out] | rw [F3'.out])
                  go_ret2
                  exact ⟨_, rfl, 0, rfl⟩
            · have hci : (q' : Int) < 4294967296 := by omega
              have hcj : ¬ 4294967296 ≤ (q' : Int) := by omega
              obtain ⟨m, wm, hm⟩ := prod_of (q := q') hy0 (by omega)
              have WM := Lib.hid wm
              have hQ := HAT.out.stop HD2.out (by omega)
              have HQ := Lib.hid hQ
              obtain ⟨p, p2, w1, w2, hp2⟩ : ∃ p p2 : Nat, 4294967296 * (r' : Int) = (p : Int) ∧ (p : Int) + (u0 : Int) = (p2 : Int) ∧ p2 = 4294967296 * r' + u0 :=
                ⟨4294967296 * r', 4294967296 * r' + u0, by omega, by omega, rfl⟩
              have W1 := Lib.hid w1
              have W2 := Lib.hid w2
              have W3 := W1
              have W4 := W1
              have W5 : Hid (IntKind.u64.wrap (p2 : Int) = (p2 : Int)) := wrap_small p2 (by omega)
              rw [← hm, ← hp2] at hyes
              have hle : (m : Int) ≤ (p2 : Int) := by omega
              have hle2 : ¬ (p2 : Int) < (m : Int) := by omega
              have hlq : q' < 4294967296 := by omega
              have HM := Lib.hid hm
              have HP2 := Lib.hid hp2
              clear hm hp2 hyes hQ w1 w2 wm
              obtain ⟨F1, f1, f3, f2⟩ := last_of HS.out hY0 HQ1.out HV.out HQ.out (by omega)
              have F1' := Lib.hid f1
              have F2' := Lib.hid f2
              have F3' := Lib.hid f3
              clear f1 f2 f3
              go_wp2_with (first | rw [W1.out] | rw [W2.out] | rw [W3.out] | rw [W4.out] | rw [W5.out] | rw [WM.out] | rw [F1'.out] | rw [F2'.out] | rw [F3'.out])
              go_ret2
              exact ⟨_, rfl, 0, rfl⟩
    · have hci : (q' : Int) < 4294967296 := by omega
      have hcj : ¬ 4294967296 ≤ (q' : Int) := by omega
      obtain ⟨m, wm, hm⟩ := prod_of (q := q') hy0 (by omega)
      have WM := Lib.hid wm
      have hQ := HAT.out.stop HD.out (by omega)
      have HQ := Lib.hid hQ
      obtain ⟨p, p2, w1, w2, hp2⟩ : ∃ p p2 : Nat, 4294967296 * (r' : Int) = (p : Int) ∧ (p : Int) + (u1 : Int) = (p2 : Int) ∧ p2 = 4294967296 * r' + u1 :=
        ⟨4294967296 * r', 4294967296 * r' + u1, by omega, by omega, rfl⟩
      have W1 := Lib.hid w1
      have W2 := Lib.hid w2
      have W3 := W1
      have W4 := W1
      have W5 : Hid (IntKind.u64.wrap (p2 : Int) = (p2 : Int)) := wrap_small p2 (by omega)
      rw [← hm, ← hp2] at hyes
      have hle : (m : Int) ≤ (p2 : Int) := by omega
      have hle2 : ¬ (p2 : Int) < (m : Int) := by omega
      have hlq : q' < 4294967296 := by omega
      have HM := Lib.hid hm
      have HP2 := Lib.hid hp2
      clear hm hp2 hyes hQ w1 w2 wm
      have HQ1 : Hid (q' = (a * 4294967296 + u1) / Y) := by
        show q' = (a * 4294967296 + u1) / Y
        rw [HYE.out]; exact HQ.out
      obtain ⟨A1, A2, A3, v, g1, g2, g3, g4, hv⟩ := rest_of (a := a) (u1 := u1) (Y := Y) (Q := q') (by have := HYE.out; omega) hYlt HQ1.out
      have hvY : v < Y := by rw [hv]; exact Nat.mod_lt _ (by have := HYE.out; omega)
      have hd2 : Div.Dig v u0 y1 y0 := ⟨hu0, hy1, hy1', hy0, by have := HYE.out; omega⟩
      obtain ⟨q3, z3, r3, e1, e2, e3, e4, hq3, hr3⟩ := quot_of (a := v) (y1 := y1) (by omega) (by omega)
      have hat2 : Div.At v u0 y1 y0 q3 r3 := by rw [hq3, hr3]; exact Div.start hd2
      have HD2 := Lib.hid hd2
      have HAT2 := Lib.hid hat2
      have HV := Lib.hid hv
      have G1 := Lib.hid g1
      have G2 := Lib.hid g2
      have G3 := Lib.hid g3
      have G4 := Lib.hid g4
      have E1' := Lib.hid e1
      have E2' := Lib.hid e2
      have E3' := Lib.hid e3
      have E4' := Lib.hid e4
      clear g1 g2 g3 g4 e1 e2 e3 e4 hd2 hat2 hv hq3 hr3
      go_wp2_with (first | rw [W1.out] | rw [W2.out] | rw [W3.out] | rw [W4.out] | rw [W5.out] | rw [WM.out] | rw [G1.out] | rw [G2.out] | rw [G3.out] | rw [G4.out] | rw [E1'.out] | rw [E2'.out] | rw [E3'.out] | rw [E4'.out])
      clear W1 W2 W3 W4 W5 WM HAT HQ hci
      go_loop [16, 18] (fun rv qv => ∃ r q : Nat, qv = .int .u64 q ∧ rv = .int .u64 r ∧ Div.At v u0 y1 y0 q r) (fun _ qv => (intOf qv).toNat)
      case atStart => exact ⟨r3, q3, rfl, rfl, HAT2.out⟩
      case round =>
        obtain ⟨r', q', rfl, rfl, hat⟩ := hrel
        have hsm := hat.small HD2.out
        have hrl := hat.lt
        have HAT := Lib.hid hat
        clear hat
        by_cases hyes : 4294967296 ≤ q' ∨ 4294967296 * r' + u0 < q' * y0
        · have hq1 : 1 ≤ q' := by
            rcases Nat.eq_zero_or_pos q' with h0 | h0
            · subst h0; simp at hyes
            · exact h0
          obtain ⟨p, p2, q2, r2, w1, w2, w3, w4, hp2, hq2, hr2⟩ := round_of (r := r') (u1 := u0) (y1 := y1) hq1
          have W1 := Lib.hid w1
          have W2 := Lib.hid w2
          have W3 := Lib.hid w3
          have W4 := Lib.hid w4
          have W5 : Hid (IntKind.u64.wrap (p2 : Int) = (p2 : Int)) := wrap_small p2 (by omega)
          clear w1 w2 w3 w4
          have HYES := Lib.hid hyes
          by_cases hc : 4294967296 ≤ q'
          · have hci : ¬ (q' : Int) < 4294967296 := by omega
            have hcj : 4294967296 ≤ (q' : Int) := by omega
            have WM : Hid (IntKind.u64.wrap ((q' : Int) * (y0 : Int)) = IntKind.u64.wrap ((q' : Int) * (y0 : Int))) := rfl
            clear hyes WM hp2
            have WM := W1
            by_cases hbr : r2 < 4294967296
            · have hbi : (r2 : Int) < 4294967296 := by omega
              have hbj : ¬ 4294967296 ≤ (r2 : Int) := by omega
              have hn := HAT.out.next HD2.out HYES.out (by omega)
              rw [← hq2, ← hr2] at hn
              have HN := Lib.hid hn
              have hq2lt : q2 < q' := by omega
              clear hn hq2 hr2
              go_wp2_with (first | rw [W1.out] | rw [W2.out] | rw [W3.out] | rw [W4.out] | rw [W5.out] | rw [WM.out])
              go_round
              case rel => exact ⟨r2, q2, rfl, rfl, HN.out⟩
              case measure => simp [intOf]; omega
            · have hbi : ¬ (r2 : Int) < 4294967296 := by omega
              have hbj : 4294967296 ≤ (r2 : Int) := by omega
              have hQ := HAT.out.last HD2.out HYES.out (by omega)
              rw [← hq2] at hQ
              have HQ := Lib.hid hQ
              clear hQ hq2 hr2
              obtain ⟨F1, f1, f3, f2⟩ := last_of HS.out hY0 HQ1.out HV.out HQ.out (by omega)
              have F1' := Lib.hid f1
              have F2' := Lib.hid f2
              have F3' := Lib.hid f3
              clear f1 f2 f3
              go_wp2_with (first | rw [W1.out] | rw [W2.out] | rw [W3.out] | rw [W4.out] | rw [W5.out] | rw [WM.out] | rw [F1'.out] | rw [F2'.out] | rw [F3'.out])
              go_ret2
              exact ⟨_, rfl, 0, rfl⟩
          · have hci : (q' : Int) < 4294967296 := by omega
            have hcj : ¬ 4294967296 ≤ (q' : Int) := by omega
            obtain ⟨m, wm, hm⟩ := prod_of (q := q') hy0 (by omega)
            have WM := Lib.hid wm
            rw [← hm] at hyes
            have hlt : (p2 : Int) < (m : Int) := by omega
            have hlt2 : ¬ (m : Int) ≤ (p2 : Int) := by omega
            clear wm hyes
            have HM := Lib.hid hm
            have HP2 := Lib.hid hp2
            clear hm hp2
            by_cases hbr : r2 < 4294967296
            · have hbi : (r2 : Int) < 4294967296 := by omega
              have hbj : ¬ 4294967296 ≤ (r2 : Int) := by omega
              have hn := HAT.out.next HD2.out HYES.out (by omega)
              rw [← hq2, ← hr2] at hn
              have HN := Lib.hid hn
              have hq2lt : q2 < q' := by omega
              clear hn hq2 hr2
              go_wp2_with (first | rw [W1.out] | rw [W2.out] | rw [W3.out] | rw [W4.out] | rw [W5.out] | rw [WM.out])
              go_round
              case rel => exact ⟨r2, q2, rfl, rfl, HN.out⟩
              case measure => simp [intOf]; omega
            · have hbi : ¬ (r2 : Int) < 4294967296 := by omega
              have hbj : 4294967296 ≤ (r2 : Int) := by omega
              have hQ := HAT.out.last HD2.out HYES.out (by omega)
              rw [← hq2] at hQ
              have HQ := Lib.hid hQ
              clear hQ hq2 hr2
              obtain ⟨F1, f1, f3, f2⟩ := last_of HS.out hY0 HQ1.out HV.out HQ.out (by omega)
              have F1' := Lib.hid f1
              have F2' := Lib.hid f2
              have F3' := Lib.hid f3
              clear f1 f2 f3
              go_wp2_with (first | rw [W1.out] | rw [W2.out] | rw [W3.out] | rw [W4.out] | rw [W5.out] | rw [WM.out] | rw [F1'.out] | rw [F2'.out] | rw [F3'.out])
              go_ret2
              exact ⟨_, rfl, 0, rfl⟩
        · have hci : (q' : Int) < 4294967296 := by omega
          have hcj : ¬ 4294967296 ≤ (q' : Int) := by omega
          obtain ⟨m, wm, hm⟩ := prod_of (q := q') hy0 (by omega)
          have WM := Lib.hid wm
          have hQ := HAT.out.stop HD2.out (by omega)
          have HQ := Lib.hid hQ
          obtain ⟨p, p2, w1, w2, hp2⟩ : ∃ p p2 : Nat, 4294967296 * (r' : Int) = (p : Int) ∧ (p : Int) + (u0 : Int) = (p2 : Int) ∧ p2 = 4294967296 * r' + u0 :=
            ⟨4294967296 * r', 4294967296 * r' + u0, by omega, by omega, rfl⟩
          have W1 := Lib.hid w1
          have W2 := Lib.hid w2
          have W3 := W1
          have W4 := W1
          have W5 : Hid (IntKind.u64.wrap (p2 : Int) = (p2 : Int)) := wrap_small p2 (by omega)
          rw [← hm, ← hp2] at hyes
          have hle : (m : Int) ≤ (p2 : Int) := by omega
          have hle2 : ¬ (p2 : Int) < (m : Int) := by omega
          have hlq : q' < 4294967296 := by omega
          have HM := Lib.hid hm
          have HP2 := Lib.hid hp2
          clear hm hp2 hyes hQ w1 w2 wm
          obtain ⟨F1, f1, f3, f2⟩ := last_of HS.out hY0 HQ1.out HV.out HQ.out (by omega)
          have F1' := Lib.hid f1
          have F2' := Lib.hid f2
          have F3' := Lib.hid f3
          clear f1 f2 f3
          go_wp2_with (first | rw [W1.out] | rw [W2.out] | rw [W3.out] | rw [W4.out] | rw [W5.out] | rw [WM.out] | rw [F1'.out] | rw [F2'.out] | rw [F3'.out])
          go_ret2
          exact ⟨_, rfl, 0, rfl⟩
end Go.Proofs.Ytkokgdebahgbdaa
