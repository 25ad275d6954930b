/-
  Contracts of money's small functions: bits.Mul64 (off the shelf), size, Acc.over, Acc.Mul.
-/
import Derived.Test.YtkokgdebahgbdaaWords
import Derived.Shelf.Bits.Mul64
import Derived.Test.YtkokgdebahgbdaaProg
namespace Go.Proofs
open Go.Shelf
def Ytkokgdebahgbdaa.lays264_ren : Go.Shelf.Ren := ⟨fun | 264 => 42 | n => n, fun | 53 => 47 | 46 => 48 | n => n, fun | n => n⟩
theorem Ytkokgdebahgbdaa.lays264 : Go.Proofs.Lays.n264 Try.prog Ytkokgdebahgbdaa.lays264_ren := {
  mixed := by kernel_rfl
  f264 := Try.func42.trans (congrArg some (by kernel_rfl))
  t46 := Try.underlying48
  a46 := Try.isAgg48
  z46 := Try.sizeOf48
  v46 := Try.zeroValue48
  t53 := Try.underlying47
  a53 := Try.isAgg47
  z53 := Try.sizeOf47
  v53 := Try.zeroValue47 }
namespace Ytkokgdebahgbdaa
open Go.RowKit

theorem mul64_any (x y : Nat) (hx : x < 18446744073709551616) (hy : y < 18446744073709551616) (w : World) :
    Calls Try.prog 42 #[.int .u64 x, .int .u64 y] w fun e w' => e = .returned (.tuple #[.int .u64 ((x * y / 18446744073709551616 : Nat) : Int), .int .u64 ((x * y % 18446744073709551616 : Nat) : Int)]) ∧ w = w' :=
  (Any.bits_Mul64 Ytkokgdebahgbdaa.lays264 x y hx hy w).mono fun _ _ h => ⟨h.1, h.2.symm⟩

theorem wrapU_nat (x : Int) (h0 : 0 ≤ x) (h1 : x < 18446744073709551616) : IntKind.u64.wrap x = x := by rw [IntKind.wrap_u64]; exact Int.emod_eq_of_lt h0 h1

theorem mul64_ex (x y : Nat) (hx : x < 18446744073709551616) (hy : y < 18446744073709551616) (w : World) :
    Calls Try.prog 42 #[.int .u64 x, .int .u64 y] w fun e w' => (∃ hi lo : Nat, e = .returned (.tuple #[.int .u64 hi, .int .u64 lo]) ∧ hi * 18446744073709551616 + lo = x * y ∧ lo < 18446744073709551616) ∧ w = w' :=
  (mul64_any x y hx hy w).mono fun _ _ h => ⟨⟨_, _, h.1, by omega, by omega⟩, h.2⟩

theorem size_any (x : Int) (h0 : -9223372036854775808 ≤ x) (h1 : x ≤ 9223372036854775807) (w : World) :
    Calls Try.prog 43 #[.int .i64 x] w fun e w' => e = .returned (.int .u64 (x.natAbs : Int)) ∧ w = w' := by
  by_cases hx : x < 0
  · go_enter Try.func43, Try.ntmps43
    go_wp2
    go_ret
    exact ⟨ret_int (by rw [IntKind.wrap_u64, IntKind.wrap_u64]; omega), rfl⟩
  · go_enter Try.func43, Try.ntmps43
    go_wp2
    go_ret
    exact ⟨ret_int (by omega), rfl⟩

theorem over_nil (below : Bool) (w : World) : Calls Try.prog 35 #[.pointer none, .bool below] w fun e w' => e = .returned (.int .i64 (if below then -1152921504606846976 else 1152921504606846976)) ∧ w = w' := by
  cases below
  all_goals
    go_enter Try.func35, Try.ntmps35
    go_wp2
    go_ret
    exact ⟨rfl, rfl⟩
theorem over_set (b : Nat) (o below : Bool) (w : World) (h : Blk w b 26 #[.bool o]) :
    Calls Try.prog 35 #[.pointer (some ⟨b, 0, none⟩), .bool below] w fun e w' => e = .returned (.int .i64 (if below then -1152921504606846976 else 1152921504606846976)) ∧ w.setCell ⟨b, 0, none⟩ (.bool true) = w' := by
  have h0 := h.cell 0
  have f0 := h.frozen 0
  simp at h0
  cases below
  all_goals
    go_enter Try.func35, Try.ntmps35
    go_wp2
    go_ret
    exact ⟨rfl, rfl⟩

/-- A product's value within the ends, and whether it lay beyond one. -/
def mulV (x y : Int) : Int := if 1152921504606846976 < x * y then 1152921504606846976 else if x * y < -1152921504606846976 then -1152921504606846976 else x * y
def mulO (x y : Int) : Bool := decide (1152921504606846976 < x * y) || decide (x * y < -1152921504606846976)

def IsI64 (x : Int) : Prop := -9223372036854775808 ≤ x ∧ x ≤ 9223372036854775807

theorem natAbs_mul_pos {x y : Int} (h : (0 ≤ x ∧ 0 ≤ y) ∨ (x < 0 ∧ y < 0)) : x * y = ((x.natAbs * y.natAbs : Nat) : Int) := by
  rw [← Int.natAbs_mul]
  have : 0 ≤ x * y := by
    rcases h with ⟨a, b⟩ | ⟨a, b⟩
    · exact Int.mul_nonneg a b
    · exact Int.mul_nonneg_of_nonpos_of_nonpos (by omega) (by omega)
  omega
theorem natAbs_mul_neg {x y : Int} (h : (0 ≤ x ∧ y < 0) ∨ (x < 0 ∧ 0 ≤ y)) : x * y = -((x.natAbs * y.natAbs : Nat) : Int) := by
  rw [← Int.natAbs_mul]
  have : x * y ≤ 0 := by
    rcases h with ⟨a, b⟩ | ⟨a, b⟩
    · exact Int.mul_nonpos_of_nonneg_of_nonpos a (by omega)
    · exact Int.mul_nonpos_of_nonpos_of_nonneg (by omega) b
  omega

theorem natAbs_mul_or (x y : Int) : (x * y = ((x.natAbs * y.natAbs : Nat) : Int) ∧ ((0 ≤ x ∧ 0 ≤ y) ∨ (x < 0 ∧ y < 0))) ∨ (x * y = -((x.natAbs * y.natAbs : Nat) : Int) ∧ ((0 ≤ x ∧ y < 0) ∨ (x < 0 ∧ 0 ≤ y))) := by
  by_cases sx : x < 0 <;> by_cases sy : y < 0
  · exact .inl ⟨natAbs_mul_pos (.inr ⟨sx, sy⟩), .inr ⟨sx, sy⟩⟩
  · exact .inr ⟨natAbs_mul_neg (.inr ⟨sx, by omega⟩), .inr ⟨sx, by omega⟩⟩
  · exact .inr ⟨natAbs_mul_neg (.inl ⟨by omega, sy⟩), .inl ⟨by omega, sy⟩⟩
  · exact .inl ⟨natAbs_mul_pos (.inl ⟨by omega, by omega⟩), .inl ⟨by omega, by omega⟩⟩

theorem mul_in (p : Option Addr) (x y : Int) (hx : IsI64 x) (hy : IsI64 y) (h : x.natAbs * y.natAbs ≤ 1152921504606846976) (w : World) :
    Calls Try.prog 18 #[.pointer p, .int .i64 x, .int .i64 y] w fun e w' => e = .returned (.int .i64 (x * y)) ∧ w = w' := by
  obtain ⟨x0, x1⟩ := hx
  obtain ⟨y0, y1⟩ := hy
  have hq := natAbs_mul_or x y
  generalize hP : x.natAbs * y.natAbs = P at *
  have HP := Lib.hid hP
  have HQ := Lib.hid hq
  clear hP hq
  obtain ⟨bx, hbx⟩ : ∃ bx, decide (x < 0) = bx := ⟨_, rfl⟩
  obtain ⟨b2, hby⟩ : ∃ b2, decide (y < 0) = b2 := ⟨_, rfl⟩
  cases bx <;> cases b2
  all_goals
    have sx := hbx
    have sy := hby
    simp only [decide_eq_true_eq, decide_eq_false_iff_not] at sx sy
    go_enter Try.func18, Try.ntmps18
    go_wp2_with fail
    refine (size_any x x0 x1 w).mono ?_
    rintro en w1 ⟨rfl, rfl⟩
    go_wp2_with fail
    refine (size_any y y0 y1 w).mono ?_
    rintro en w1 ⟨rfl, rfl⟩
    go_wp2_with fail
    refine (mul64_ex x.natAbs y.natAbs (by omega) (by omega) w).mono ?_
    rintro en w1 ⟨⟨hi, lo, rfl, hm, hl⟩, rfl⟩
    rw [HP.out] at hm
    obtain ⟨rfl, rfl⟩ : hi = 0 ∧ lo = P := by omega
    clear hm
    go_wp2_with fail
    go_ret
    refine ⟨ret_int ?_, rfl⟩
    have hq := HQ.out
    omega

/-- beyond an end: what over then makes of the world is the callee's own contract -/
theorem mul_beyond (p : Option Addr) (x y : Int) (hx : IsI64 x) (hy : IsI64 y) (h : 1152921504606846976 < x.natAbs * y.natAbs) (w : World) (R : World → Prop)
    (ho : ∀ below, Calls Try.prog 35 #[.pointer p, .bool below] w fun e w' => e = .returned (.int .i64 (if below then -1152921504606846976 else 1152921504606846976)) ∧ R w') :
    Calls Try.prog 18 #[.pointer p, .int .i64 x, .int .i64 y] w fun e w' => e = .returned (.int .i64 (mulV x y)) ∧ R w' := by
  obtain ⟨x0, x1⟩ := hx
  obtain ⟨y0, y1⟩ := hy
  have hq := natAbs_mul_or x y
  generalize hP : x.natAbs * y.natAbs = P at *
  have HP := Lib.hid hP
  have HQ := Lib.hid hq
  have HO := Lib.hid ho
  clear hP hq ho
  obtain ⟨bx, hbx⟩ : ∃ bx, decide (x < 0) = bx := ⟨_, rfl⟩
  obtain ⟨b2, hby⟩ : ∃ b2, decide (y < 0) = b2 := ⟨_, rfl⟩
  cases bx <;> cases b2
  all_goals
    have sx := hbx
    have sy := hby
    simp only [decide_eq_true_eq, decide_eq_false_iff_not] at sx sy
    go_enter Try.func18, Try.ntmps18
    go_wp2_with fail
    refine (size_any x x0 x1 w).mono ?_
    rintro en w1 ⟨rfl, rfl⟩
    go_wp2_with fail
    refine (size_any y y0 y1 w).mono ?_
    rintro en w1 ⟨rfl, rfl⟩
    go_wp2_with fail
    refine (mul64_ex x.natAbs y.natAbs (by omega) (by omega) w).mono ?_
    rintro en w1 ⟨⟨hi, lo, rfl, hm, hl⟩, rfl⟩
    rw [HP.out] at hm
    by_cases hz : hi = 0
    all_goals
      first
        | (subst hz
           have hlo : 1152921504606846976 < lo := by omega
           clear hm)
        | have hnz : ((hi : Int) != 0) = true := by simpa using hz
      go_wp2_with fail
      refine (HO.out _).mono ?_
      rintro en w2 ⟨rfl, hR⟩
      have HR := Lib.hid hR
      clear hR
      go_wp2_with fail
      go_ret
      refine ⟨ret_int ?_, HR.out⟩
      unfold mulV
      have hq := HQ.out
      repeat' split
      all_goals first | rfl | (exfalso; omega) | omega
end Ytkokgdebahgbdaa
end Go.Proofs
