/-
  Long division by digits of 32 bits, and the length of a number in bits: plain arithmetic, no program.
-/
import Derived.Lib.BitFns
namespace Go.Proofs.Ytkokgdebahgbdaa
namespace Div
/-! One digit of a long division: n = a * 2^32 + u, the divisor y = y1 * 2^32 + y0 with 2^31 ≤ y1 < 2^32, a < y. -/
def B : Nat := 4294967296
structure Dig (a u y1 y0 : Nat) : Prop where
  hu : u < 4294967296
  h1 : 2147483648 ≤ y1
  h1' : y1 < 4294967296
  h0 : y0 < 4294967296
  ha : a < y1 * 4294967296 + y0

/-- the loop's relation: q is not below the digit, r is what is left at q -/
structure At (a u y1 y0 q r : Nat) : Prop where
  ge : (a * 4294967296 + u) / (y1 * 4294967296 + y0) ≤ q
  sum : q * y1 + r = a
  lt : r < 4294967296

theorem dig_lt {a u y1 y0 : Nat} (d : Dig a u y1 y0) : (a * 4294967296 + u) / (y1 * 4294967296 + y0) < 4294967296 := by
  obtain ⟨hu, h1, h1', h0, ha⟩ := d
  rw [Nat.div_lt_iff_lt_mul (by omega)]
  have : (a + 1) * 4294967296 ≤ (y1 * 4294967296 + y0) * 4294967296 := Nat.mul_le_mul_right _ (by omega)
  omega
theorem start {a u y1 y0 : Nat} (d : Dig a u y1 y0) : At a u y1 y0 (a / y1) (a - a / y1 * y1) := by
  obtain ⟨hu, h1, h1', h0, ha⟩ := d
  have hm := Nat.div_mul_le_self a y1
  have hlt := Nat.lt_div_mul_add (a := a) (b := y1) (by omega)
  refine ⟨?_, by omega, by omega⟩
  rw [Nat.div_le_iff_le_mul_add_pred (by omega)]
  have e : (y1 * 4294967296 + y0) * (a / y1) = a / y1 * y1 * 4294967296 + a / y1 * y0 := by rw [Nat.add_mul, Nat.mul_comm (y1 * 4294967296), Nat.mul_comm y0, ← Nat.mul_assoc]
  rw [e]
  generalize a / y1 * y0 = z
  omega
theorem At.small {a u y1 y0 q r : Nat} (d : Dig a u y1 y0) (h : At a u y1 y0 q r) : q < 8589934592 := by
  obtain ⟨hu, h1, h1', h0, ha⟩ := d
  rcases Nat.lt_or_ge q 8589934592 with hl | hg
  · exact hl
  · have := Nat.mul_le_mul hg h1
    have := h.sum
    omega
theorem At.exp {a u y1 y0 q r : Nat} (h : At a u y1 y0 q r) : q * (y1 * 4294967296 + y0) + r * 4294967296 = a * 4294967296 + q * y0 := by
  have := h.sum
  rw [Nat.mul_add, ← Nat.mul_assoc, ← this, Nat.add_mul]
  omega
/-- the test answers no: q is the digit -/
theorem At.stop {a u y1 y0 q r : Nat} (d : Dig a u y1 y0) (h : At a u y1 y0 q r) (h2 : q * y0 ≤ 4294967296 * r + u) : q = (a * 4294967296 + u) / (y1 * 4294967296 + y0) := by
  have := h.exp
  have hge := h.ge
  have : q ≤ (a * 4294967296 + u) / (y1 * 4294967296 + y0) := by
    have h1 := d.h1
    rw [Nat.le_div_iff_mul_le (by omega)]
    omega
  omega
/-- the test answers yes: one fewer -/
theorem At.gt {a u y1 y0 q r : Nat} (d : Dig a u y1 y0) (h : At a u y1 y0 q r) (h2 : 4294967296 ≤ q ∨ 4294967296 * r + u < q * y0) : (a * 4294967296 + u) / (y1 * 4294967296 + y0) < q := by
  rcases h2 with h2 | h2
  · have := dig_lt d; omega
  · have e := h.exp
    have h1 := d.h1
    rw [Nat.div_lt_iff_lt_mul (by omega)]
    omega
theorem At.next {a u y1 y0 q r : Nat} (d : Dig a u y1 y0) (h : At a u y1 y0 q r) (h2 : 4294967296 ≤ q ∨ 4294967296 * r + u < q * y0) (h3 : r + y1 < 4294967296) : At a u y1 y0 (q - 1) (r + y1) := by
  have hg := h.gt d h2
  have hs := h.sum
  have hp : 0 < q := Nat.lt_of_le_of_lt (Nat.zero_le _) hg
  refine ⟨Nat.le_sub_one_of_lt hg, ?_, h3⟩
  obtain ⟨k, rfl⟩ : ∃ k, q = k + 1 := ⟨q - 1, by omega⟩
  rw [Nat.add_mul] at hs
  simp only [Nat.add_sub_cancel]
  omega
theorem At.last {a u y1 y0 q r : Nat} (d : Dig a u y1 y0) (h : At a u y1 y0 q r) (h2 : 4294967296 ≤ q ∨ 4294967296 * r + u < q * y0) (h3 : 4294967296 ≤ r + y1) :
    q - 1 = (a * 4294967296 + u) / (y1 * 4294967296 + y0) := by
  have hg := h.gt d h2
  have hs := h.sum
  have hp : 0 < q := Nat.lt_of_le_of_lt (Nat.zero_le _) hg
  obtain ⟨k, rfl⟩ : ∃ k, q = k + 1 := ⟨q - 1, by omega⟩
  rw [Nat.add_mul] at hs
  simp only [Nat.add_sub_cancel]
  obtain ⟨hu, h1, h1', h0, ha⟩ := d
  have hk : k < 4294967296 := by
    rcases Nat.lt_or_ge k 4294967296 with hl | hg2
    · exact hl
    · have := Nat.mul_le_mul_right y1 hg2
      omega
  have hky : k * y0 ≤ 4294967296 * 4294967295 := Nat.le_trans (Nat.mul_le_mul (Nat.le_of_lt hk) (show y0 ≤ 4294967295 by omega)) (Nat.le_refl _)
  have e : k * (y1 * 4294967296 + y0) ≤ a * 4294967296 + u := by
    rw [Nat.mul_add, ← Nat.mul_assoc]
    generalize k * y1 = z at *
    generalize k * y0 = z2 at *
    omega
  have : k ≤ (a * 4294967296 + u) / (y1 * 4294967296 + y0) := by rw [Nat.le_div_iff_mul_le (by omega)]; exact e
  omega

/-- two digits make the quotient -/
theorem two {a u1 u0 y : Nat} (hy : 0 < y) :
    (a * 4294967296 + u1) / y * 4294967296 + ((a * 4294967296 + u1) % y * 4294967296 + u0) / y = (a * 18446744073709551616 + u1 * 4294967296 + u0) / y := by
  have e : a * 18446744073709551616 + u1 * 4294967296 + u0 = ((a * 4294967296 + u1) % y * 4294967296 + u0) + y * ((a * 4294967296 + u1) / y * 4294967296) := by
    have := Nat.div_add_mod (a * 4294967296 + u1) y
    rw [← Nat.mul_assoc]
    generalize y * ((a * 4294967296 + u1) / y) = z at *
    generalize (a * 4294967296 + u1) % y = z2 at *
    omega
  rw [e, Nat.add_mul_div_left _ _ hy, Nat.add_comm]
theorem bitLenAux_spec : ∀ (f x : Nat), x < 2 ^ f → x ≠ 0 → 1 ≤ Lib.bitLenAux f x ∧ Lib.bitLenAux f x ≤ f ∧ 2 ^ (Lib.bitLenAux f x - 1) ≤ x ∧ x < 2 ^ Lib.bitLenAux f x := by
  intro f
  induction f with
  | zero => intro x h h0; simp at h; exact absurd h h0
  | succ f ih =>
    intro x h h0
    have e : Lib.bitLenAux (f + 1) x = 1 + Lib.bitLenAux f (x / 2) := by simp [Lib.bitLenAux, h0]
    rw [e]
    by_cases h1 : x / 2 = 0
    · have : Lib.bitLenAux f (x / 2) = 0 := by rw [h1]; cases f <;> simp [Lib.bitLenAux]
      rw [this]
      have hx : x = 1 := by omega
      subst hx
      simp
    · have hx2 : x / 2 < 2 ^ f := by rw [Nat.pow_succ] at h; omega
      obtain ⟨a, b, c, d⟩ := ih (x / 2) hx2 h1
      obtain ⟨k, hk⟩ : ∃ k, Lib.bitLenAux f (x / 2) = k + 1 := ⟨_, (Nat.succ_pred_eq_of_pos a).symm⟩
      rw [hk] at c d b ⊢
      have e1 : 1 + (k + 1) - 1 = (k + 1 - 1) + 1 := by omega
      have e2 : 1 + (k + 1) = (k + 1) + 1 := by omega
      refine ⟨by omega, by omega, ?_, ?_⟩
      · rw [e1, Nat.pow_succ]; omega
      · rw [e2, Nat.pow_succ]; omega
end Div
end Go.Proofs.Ytkokgdebahgbdaa
