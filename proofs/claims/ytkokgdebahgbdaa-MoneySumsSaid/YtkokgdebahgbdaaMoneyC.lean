/-
  Contracts of money's Least and Most; the statements' first call 'alive'.
-/
import Derived.Test.YtkokgdebahgbdaaMoneyAdd
import Derived.Test.YtkokgdebahgbdaaMoneyNum
import Derived.Test.YtkokgdebahgbdaaMoneyDig
namespace Go.Proofs.Ytkokgdebahgbdaa
open Go.RowKit

theorem Reads.int_at {w : World} {B n : Nat} {A : Option Addr} {xs : List Int} (h : Reads w B 1 A n (ints xs)) (hn : 0 < n) :
    ∃ b off, A = some ⟨b, off, none⟩ ∧ ∀ j, j < xs.length → w.cell? ⟨b, off + j, none⟩ = some (.int .i64 (xs.getD j 0)) := by
  obtain ⟨ad, hA, hb, hc⟩ := h.2 hn
  have hlen := h.int_len
  have hat : ∀ j, j < xs.length → w.cell? (ad.add j) = some (.int .i64 (xs.getD j 0)) := by
    intro j hj
    refine hc j _ ?_
    simp [ints, List.getElem?_map, List.getElem?_eq_getElem hj, List.getD_eq_getElem?_getD]
  have h0 := hat 0 (by omega)
  obtain ⟨b, off, spot⟩ := ad
  have hs : spot = none := by simpa [Addr.add] using World.cell?_spot h0
  subst hs
  refine ⟨b, off, hA, fun j hj => ?_⟩
  have e : (⟨b, off, none⟩ : Addr).add j = ⟨b, off + j, none⟩ := by unfold Addr.add; by_cases h : j = 0 <;> simp [h]
  rw [← e]
  exact hat j hj

def mostF (xs : List Int) : Int := if xs.length = 0 then 0 else Lib.maxOf xs
def leastF (xs : List Int) : Int := if xs.length = 0 then 0 else Lib.minOf xs
theorem most_any (A : Option Addr) (n c : Nat) (xs : List Int) (w : World) (B : Nat) (h : Reads w B 1 A n (ints xs)) (hn : n ≤ 9223372036854775807) :
    Calls Try.prog 28 #[.slice A n c] w fun e w' => e = .returned (.int .i64 (mostF xs)) ∧ w = w' := by
  have hlen := h.int_len
  by_cases h0 : n = 0
  · have HF := Lib.hid (show mostF xs = 0 from by unfold mostF; rw [if_pos (by omega)])
    subst h0
    clear hlen
    go_enter Try.func28, Try.ntmps28
    go_wp2_with fail
    go_ret
    exact ⟨ret_int HF.out.symm, rfl⟩
  · obtain ⟨b, off, rfl, hc⟩ := h.int_at (by omega)
    have HF := Lib.hid (show mostF xs = Lib.maxOf (xs.take n) from by unfold mostF; rw [if_neg (by omega), ← hlen, List.take_length])
    have HC := Lib.hid hc
    have HL := Lib.hid hlen
    clear hc hlen h
    have hz : ((n : Int) == 0) = false := by simp; omega
    go_enter Try.func28, Try.ntmps28
    go_wp2_with fail
    refine (Try.slices_Max_int b off n c xs w (by omega) (by have := HL.out; omega) hn HC.out).mono ?_
    rintro en w1 ⟨rfl, rfl⟩
    go_wp2_with fail
    go_ret
    exact ⟨ret_int HF.out.symm, rfl⟩
theorem least_any (A : Option Addr) (n c : Nat) (xs : List Int) (w : World) (B : Nat) (h : Reads w B 1 A n (ints xs)) (hn : n ≤ 9223372036854775807) :
    Calls Try.prog 27 #[.slice A n c] w fun e w' => e = .returned (.int .i64 (leastF xs)) ∧ w = w' := by
  have hlen := h.int_len
  by_cases h0 : n = 0
  · have HF := Lib.hid (show leastF xs = 0 from by unfold leastF; rw [if_pos (by omega)])
    subst h0
    clear hlen
    go_enter Try.func27, Try.ntmps27
    go_wp2_with fail
    go_ret
    exact ⟨ret_int HF.out.symm, rfl⟩
  · obtain ⟨b, off, rfl, hc⟩ := h.int_at (by omega)
    have HF := Lib.hid (show leastF xs = Lib.minOf (xs.take n) from by unfold leastF; rw [if_neg (by omega), ← hlen, List.take_length])
    have HC := Lib.hid hc
    have HL := Lib.hid hlen
    clear hc hlen h
    have hz : ((n : Int) == 0) = false := by simp; omega
    go_enter Try.func27, Try.ntmps27
    go_wp2_with fail
    refine (Try.slices_Min_int b off n c xs w (by omega) (by have := HL.out; omega) hn HC.out).mono ?_
    rintro en w1 ⟨rfl, rfl⟩
    go_wp2_with fail
    go_ret
    exact ⟨ret_int HF.out.symm, rfl⟩

set_option maxHeartbeats 1000000 in
theorem alive_any (w : World) : Calls Try.prog 13 #[] w fun e w' => e = .returned (.bool true) ∧ Below w.heap.size w w' := by
  go_enter Try.func13, Try.ntmps13
  go_wp2_with fail
  have hB := Blk.new w 26 #[.bool false]
  have hb := (Below.refl _ w).alloc (Nat.le_refl _) (.cells #[.bool false] 26)
  have hz : w.heap.size < (w.alloc (.cells #[.bool false] 26)).heap.size := by simp
  obtain ⟨b, hbe⟩ : ∃ b, b = w.heap.size := ⟨_, rfl⟩
  rw [← hbe] at hB ⊢
  have hz2 : w.heap.size ≤ b ∧ b < (w.alloc (.cells #[.bool false] 26)).heap.size := by omega
  clear hbe
  generalize w.alloc (.cells #[.bool false] 26) = w0 at *
  obtain ⟨hz2, hz3⟩ := hz2
  have HB := Lib.hid hB
  clear hB
  refine (mulDiv_any 7 3 2 (by unfold IsI64; omega) (by unfold IsI64; omega) (by unfold IsI64; omega) w0).mono ?_
  rintro en w1 ⟨rfl, hb1⟩
  rw [show mdF 7 3 2 = (10, 0) from by decide]
  go_wp2_with fail
  refine (worth_any 3 5 2500 (by unfold IsI64; omega) (by unfold IsI64; omega) (by unfold IsI64; omega) w1).mono ?_
  rintro en w2 ⟨rfl, hb2⟩
  rw [show worthF 3 5 2500 = (11, 0) from by decide]
  go_wp2_with fail
  refine (number_any ⟨#[45, 49, 50]⟩ w2).mono ?_
  rintro en w3 ⟨rfl, hb3⟩
  rw [show numberF (ByteArray.mk #[45, 49, 50]).data.toList = (-12, 0) from by decide]
  have h02 := hb1.trans (hb2.mono hb1.size)
  have h03 : Below w0.heap.size w0 w3 := h02.trans (hb3.mono h02.size)
  have hbl3 : Below w.heap.size w w3 := hb.trans (h03.mono (by omega))
  have hB3 : Blk w3 b 26 #[.bool false] := HB.out.below h03 hz3
  have HB3 := Lib.hid hB3
  clear hB3 HB hb1 hb2 hb3 h02 h03
  go_wp2_with fail
  refine (add_in _ _ 3 3 [1, 2, 3] _ (w3.heap.size + 1) ?_ (by intro x hx; simp at hx; unfold IsI64; omega) (by omega) (by decide)).mono ?_
  · have := (Blk.new w3 3 #[.int .i64 1, .int .i64 2, .int .i64 3]).reads (n := 3) rfl
    simpa [ints] using this
  rintro en w4 ⟨rfl, rfl⟩
  rw [show clampV (sumI [1, 2, 3]) = 6 from by decide]
  go_wp2_with fail
  refine (mul_in _ (-2) 3 (by unfold IsI64; omega) (by unfold IsI64; omega) (by decide) _).mono ?_
  rintro en w4 ⟨rfl, rfl⟩
  rw [show ((-2 : Int) * 3) = -6 from by decide]
  have hB4 := HB3.out.alloc (.cells #[.int .i64 1, .int .i64 2, .int .i64 3] 3)
  have hbl4 := hbl3.alloc hbl3.size (.cells #[.int .i64 1, .int .i64 2, .int .i64 3] 3)
  generalize w3.alloc (.cells #[.int .i64 1, .int .i64 2, .int .i64 3] 3) = w4 at *
  have hc4 := hB4.cell 0
  simp at hc4
  clear hB4
  go_wp2_with fail
  refine (digits_any (-7) (by unfold IsI64; omega) w4).mono ?_
  rintro en w5 ⟨rfl, hb5⟩
  rw [show (ByteArray.mk (digitsF (-7)).toArray) = ⟨#[45, 55]⟩ from rfl]
  go_wp2_with fail
  refine (most_any _ 3 3 [1, 3, 2] _ (w5.heap.size + 1) ?_ (by omega)).mono ?_
  · have := (Blk.new w5 3 #[.int .i64 1, .int .i64 3, .int .i64 2]).reads (n := 3) rfl
    simpa [ints] using this
  rintro en w6 ⟨rfl, rfl⟩
  rw [show mostF [1, 3, 2] = 3 from by decide]
  go_wp2_with fail
  go_ret
  have hbl5 := hbl4.trans (hb5.mono hbl4.size)
  exact ⟨rfl, hbl5.alloc hbl5.size _⟩
end Go.Proofs.Ytkokgdebahgbdaa
