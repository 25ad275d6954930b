/-
  Decimal digits and what they are read as: plain lists of bytes, no program.
-/
import Derived.Lib.Strings
namespace Go.Proofs.Ytkokgdebahgbdaa

def isDig (c : UInt8) : Bool := decide (48 ≤ c.toNat) && decide (c.toNat ≤ 57)
def valF (n : Nat) (d : List UInt8) : Nat := d.foldl (fun n c => 10 * n + (c.toNat - 48)) n
def isNeg (s : List UInt8) : Bool := Lib.hasPrefix s [45]
def body (s : List UInt8) : List UInt8 := Lib.trimPrefix s [45]
def okShape (d : List UInt8) (neg : Bool) : Bool := !d.isEmpty && decide (d.length ≤ 18) && !(decide (d.head? = some 48) && (decide (1 < d.length) || neg))
def numberF (s : List UInt8) : Int × Int :=
  if okShape (body s) (isNeg s) && (body s).all isDig then (if isNeg s then -(valF 0 (body s) : Int) else (valF 0 (body s) : Int), 0) else (0, 1)

theorem valF_append (n : Nat) (d e : List UInt8) : valF n (d ++ e) = valF (valF n d) e := by simp [valF]
theorem valF_bound (d : List UInt8) (h : d.all isDig = true) : ∀ n, valF n d < (n + 1) * 10 ^ d.length := by
  induction d with
  | nil => intro n; simp [valF]
  | cons c d ih =>
    intro n
    simp only [List.all_cons, Bool.and_eq_true] at h
    have := ih h.2 (10 * n + (c.toNat - 48))
    have e : valF n (c :: d) = valF (10 * n + (c.toNat - 48)) d := rfl
    have hc : c.toNat - 48 ≤ 9 := by have := h.1; simp [isDig] at this; omega
    rw [e, List.length_cons, Nat.pow_succ]
    calc valF (10 * n + (c.toNat - 48)) d < (10 * n + (c.toNat - 48) + 1) * 10 ^ d.length := this
      _ ≤ ((n + 1) * 10) * 10 ^ d.length := Nat.mul_le_mul_right _ (by omega)
      _ = (n + 1) * (10 ^ d.length * 10) := by rw [Nat.mul_assoc, Nat.mul_comm 10]

/-- the decimal digits of a number -/
def digsF : Nat → Nat → List UInt8
  | 0, n => [(48 + n % 10).toUInt8]
  | f + 1, n => if n < 10 then [(48 + n).toUInt8] else digsF f (n / 10) ++ [(48 + n % 10).toUInt8]
def digs (n : Nat) : List UInt8 := digsF n n
theorem digsF_fuel : ∀ (n f g : Nat), n ≤ f → n ≤ g → digsF f n = digsF g n := by
  intro n
  induction n using Nat.strongRecOn with
  | ind n ih =>
    intro f g hf hg
    by_cases h : n < 10
    · cases f <;> cases g <;> simp [digsF, h, Nat.mod_eq_of_lt h]
    · obtain ⟨f, rfl⟩ : ∃ k, f = k + 1 := ⟨f - 1, by omega⟩
      obtain ⟨g, rfl⟩ : ∃ k, g = k + 1 := ⟨g - 1, by omega⟩
      simp only [digsF, if_neg h]
      rw [ih (n / 10) (by omega) f g (by omega) (by omega)]
theorem digs_small {n : Nat} (h : n < 10) : digs n = [(48 + n).toUInt8] := by
  unfold digs
  cases n with
  | zero => rfl
  | succ n => simp only [digsF, if_pos h]
theorem digs_step {n : Nat} (h : 10 ≤ n) : digs n = digs (n / 10) ++ [(48 + n % 10).toUInt8] := by
  unfold digs
  obtain ⟨k, rfl⟩ : ∃ k, n = k + 1 := ⟨n - 1, by omega⟩
  simp only [digsF]
  rw [if_neg (by omega), digsF_fuel ((k + 1) / 10) k ((k + 1) / 10) (by omega) (by omega)]
theorem digit_toNat {m : Nat} (h : m < 10) : (48 + m).toUInt8.toNat = 48 + m := by
  simp [Nat.toUInt8]; omega
theorem digs_dig : ∀ n, (digs n).all isDig = true := by
  intro n
  induction n using Nat.strongRecOn with
  | ind n ih =>
    by_cases h : n < 10
    · rw [digs_small h]; simp [isDig, digit_toNat h]; omega
    · rw [digs_step (by omega), List.all_append, ih _ (by omega)]
      have := digit_toNat (show n % 10 < 10 by omega)
      simp [isDig, this]; omega
theorem digs_val : ∀ n, valF 0 (digs n) = n := by
  intro n
  induction n using Nat.strongRecOn with
  | ind n ih =>
    by_cases h : n < 10
    · rw [digs_small h]
      have := digit_toNat h
      simp only [valF, List.foldl_cons, List.foldl_nil, this]
      omega
    · rw [digs_step (by omega), valF_append, ih _ (by omega)]
      simp only [valF, List.foldl_cons, List.foldl_nil, digit_toNat (show n % 10 < 10 by omega)]
      omega
theorem digs_len : ∀ n, 1 ≤ (digs n).length ∧ ∀ k, 1 ≤ k → ((digs n).length ≤ k ↔ n < 10 ^ k) := by
  intro n
  induction n using Nat.strongRecOn with
  | ind n ih =>
    by_cases h : n < 10
    · rw [digs_small h]
      refine ⟨by simp, fun k hk => ?_⟩
      have : 10 ^ 1 ≤ 10 ^ k := Nat.pow_le_pow_right (by omega) hk
      simp
      omega
    · rw [digs_step (by omega), List.length_append, List.length_singleton]
      obtain ⟨h1, h2⟩ := ih (n / 10) (by omega)
      refine ⟨by omega, fun k hk => ?_⟩
      rcases Nat.lt_or_ge 1 k with hk1 | hk1
      · obtain ⟨j, rfl⟩ : ∃ j, k = j + 1 := ⟨k - 1, by omega⟩
        have := h2 j (by omega)
        rw [Nat.pow_succ]
        generalize 10 ^ j = z at *
        omega
      · have : k = 1 := by omega
        subst this
        omega
theorem digs_head : ∀ n, 0 < n → ∃ c r, digs n = c :: r ∧ c ≠ 48 := by
  intro n
  induction n using Nat.strongRecOn with
  | ind n ih =>
    intro h0
    by_cases h : n < 10
    · refine ⟨_, [], digs_small h, fun e => ?_⟩
      have := digit_toNat h
      rw [e] at this
      simp at this
      omega
    · obtain ⟨c, r, e, hc⟩ := ih (n / 10) (by omega) (by omega)
      exact ⟨c, r ++ _, by rw [digs_step (by omega), e]; rfl, hc⟩
theorem digs_zero : digs 0 = [48] := rfl
def digitsF (v : Int) : List UInt8 := if v < 0 then 45 :: digs v.natAbs else digs v.natAbs
theorem digs_first (n : Nat) : ∃ c r, digs n = c :: r ∧ isDig c = true := by
  have h := (digs_len n).1
  have hd := digs_dig n
  cases e : digs n with
  | nil => rw [e] at h; simp at h
  | cons c r => rw [e] at hd; simp only [List.all_cons, Bool.and_eq_true] at hd; exact ⟨c, r, rfl, hd.1⟩
theorem digitsF_parts (v : Int) : isNeg (digitsF v) = decide (v < 0) ∧ body (digitsF v) = digs v.natAbs := by
  unfold digitsF isNeg body Lib.trimPrefix Lib.hasPrefix
  by_cases h : v < 0
  · rw [if_pos h]; simp [h, List.isPrefixOf]
  · rw [if_neg h]
    obtain ⟨c, r, e, hc⟩ := digs_first v.natAbs
    rw [e]
    have : (45 == c) = false := by
      rw [beq_eq_false_iff_ne]; rintro rfl; simp [isDig] at hc
    simp [h, List.isPrefixOf, this]
theorem number_digits (v : Int) : numberF (digitsF v) = if -1000000000000000000 < v ∧ v < 1000000000000000000 then (v, 0) else (0, 1) := by
  obtain ⟨h1, h2⟩ := digitsF_parts v
  have hl := (digs_len v.natAbs).2 18 (by omega)
  have hne := (digs_len v.natAbs).1
  unfold numberF
  rw [h1, h2, digs_dig, digs_val]
  have hsh : okShape (digs v.natAbs) (decide (v < 0)) = decide (v.natAbs < 10 ^ 18) := by
    by_cases h0 : v.natAbs = 0
    · have : v = 0 := by omega
      subst this
      rfl
    · obtain ⟨c, r, e, hc⟩ := digs_head v.natAbs (by omega)
      have hd : decide ((digs v.natAbs).length ≤ 18) = decide (v.natAbs < 10 ^ 18) := by rw [decide_eq_decide]; exact hl
      rw [← hd]
      simp only [e]
      simp [okShape, hc]
  rw [hsh]
  by_cases hv : -1000000000000000000 < v ∧ v < 1000000000000000000
  · rw [if_pos hv, if_pos (by simp; omega)]
    by_cases hn : v < 0 <;> simp [hn] <;> omega
  · rw [if_neg hv, if_neg (by simp; omega)]
theorem digitsF_inj {a b : Int} (h : digitsF a = digitsF b) : a = b := by
  obtain ⟨a1, a2⟩ := digitsF_parts a
  obtain ⟨b1, b2⟩ := digitsF_parts b
  rw [h] at a1 a2
  have e1 : decide (a < 0) = decide (b < 0) := a1.symm.trans b1
  have e2 : a.natAbs = b.natAbs := by rw [← digs_val a.natAbs, ← digs_val b.natAbs, ← a2, ← b2]
  have := decide_eq_decide.1 e1
  omega
end Go.Proofs.Ytkokgdebahgbdaa
