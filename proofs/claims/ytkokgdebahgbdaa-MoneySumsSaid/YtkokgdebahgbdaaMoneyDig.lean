/-
  The contract of money's Digits.
-/
import Derived.Test.YtkokgdebahgbdaaMoneyB
import Derived.Test.YtkokgdebahgbdaaDigPlain
namespace Go.Proofs.Ytkokgdebahgbdaa
open Go.RowKit

def bytesV (l : List UInt8) : List Value := l.map fun c => .int .u8 (c.toNat : Int)

theorem bytesV_length (l : List UInt8) : (bytesV l).length = l.length := by simp [bytesV]

/-- the array holds l from j on -/
structure Held (w : World) (b j : Nat) (l : List UInt8) (cs : Array Value) : Prop where
  blk : Blk w b 64 cs
  size : cs.size = 21
  at_ : cs.toList.drop j = bytesV l
  len : j + l.length = 21
theorem Held.put {w : World} {b j : Nat} {l : List UInt8} {cs : Array Value} (h : Held w b (j + 1) l cs) (c : UInt8) :
    Held (w.setCell ⟨b, j, none⟩ (.int .u8 (c.toNat : Int))) b j (c :: l) (cs.setIfInBounds j (.int .u8 (c.toNat : Int))) := by
  have hs := h.size
  have hl := h.len
  have hj : j < cs.toList.length := by simp; omega
  refine ⟨h.blk.set_ _ _, by simp [hs], ?_, by simp; omega⟩
  have e : (cs.setIfInBounds j (.int .u8 (c.toNat : Int))).toList = cs.toList.set j (.int .u8 (c.toNat : Int)) := by simp
  rw [e, List.drop_eq_getElem_cons (by simp; omega), List.getElem_set_self, List.drop_set_of_lt (by omega), h.at_]
  rfl
theorem Held.old {w : World} {b j : Nat} {l : List UInt8} {cs : Array Value} (h : Held w b (j + 1) l cs) : ∃ u, w.cell? ⟨b, j, none⟩ = some u := by
  have hs := h.size
  have hl := h.len
  rw [h.blk.cell]
  exact ⟨_, Array.getElem?_eq_getElem (by omega)⟩
theorem Held.cell {w : World} {b j : Nat} {l : List UInt8} {cs : Array Value} (h : Held w b j l cs) : ∀ i u, (bytesV l)[i]? = some u → w.cell? ((⟨b, j, none⟩ : Addr).add i) = some u := by
  intro i u hu
  have e : (⟨b, j, none⟩ : Addr).add i = ⟨b, j + i, none⟩ := by unfold Addr.add; by_cases hi : i = 0 <;> simp [hi]
  rw [e, h.blk.cell, ← hu, ← h.at_, List.getElem?_drop]
  simp

theorem slice_b (b j : Nat) (L : List UInt8) (h : j + L.length = 21) (hj : j < 21) (w : World) :
    (Instr.sliceAt 64 (.pointer (some ⟨b, 0, none⟩)) (some (.int .i64 (j : Int))) none none).run Try.prog w = .ok (.slice (some ⟨b, j, none⟩) L.length L.length) w := by
  have e : (Instr.sliceAt 64 (.pointer (some ⟨b, 0, none⟩)) (some (.int .i64 (j : Int))) none none).run Try.prog w = _ :=
    run_sliceAt_array_l w 64 ⟨b, 0, none⟩ (by kernel_rfl) .i64 (j : Int) (by omega) (by
      have : Try.prog.arrayLen 64 = 21 := by kernel_rfl
      rw [this]; omega)
  rw [e]
  have e1 : Try.prog.arrayLen 64 = 21 := by kernel_rfl
  have e2 : Try.prog.elem 64 = 5 := by kernel_rfl
  rw [e1, e2, Try.sizeOf5]
  have hl : L.length = 21 - j := by omega
  simp only [Result.andThen, slicedAt, Int.toNat_natCast]
  rw [if_neg (by omega), hl]
  have e3 : (⟨b, 0, none⟩ : Addr).add (j * 1) = ⟨b, j, none⟩ := by unfold Addr.add; by_cases hj0 : j = 0 <;> simp [hj0]
  rw [e3]
theorem conv_b {w : World} {b j : Nat} {L : List UInt8} {cs : Array Value} (h : Held w b j L cs) :
    (convert 65 9 (.slice (some ⟨b, j, none⟩) L.length L.length)).run Try.prog w = .ok (.string ⟨L.toArray⟩) w :=
  run_convert_bytes_back w 65 9 5 ⟨b, j, none⟩ L.length L Try.underlying65 Try.underlying5 Try.underlying9 (fun i hi =>
    h.cell i _ (by rw [bytesV, List.getElem?_map, List.getElem?_eq_getElem hi]; rfl))

theorem out_b {w : World} {b j : Nat} {L : List UInt8} {cs : Array Value} (h : Held w b j L cs) (hj : j < 21) : ∃ k : Nat, ∃ S : ByteArray, S = ⟨L.toArray⟩ ∧
    (∀ w, (Instr.sliceAt 64 (.pointer (some ⟨b, 0, none⟩)) (some (.int .i64 (j : Int))) none none).run Try.prog w = .ok (.slice (some ⟨b, j, none⟩) k k) w) ∧
    (convert 65 9 (.slice (some ⟨b, j, none⟩) k k)).run Try.prog w = .ok (.string S) w :=
  ⟨_, _, rfl, slice_b b j L h.len hj, conv_b h⟩

set_option maxHeartbeats 1000000 in
theorem digits_any (v : Int) (hv : IsI64 v) (w : World) : Calls Try.prog 21 #[.int .i64 v] w fun e w' => e = .returned (.string ⟨(digitsF v).toArray⟩) ∧ Below w.heap.size w w' := by
  obtain ⟨v0, v1⟩ := hv
  have hN : v.natAbs < 10 ^ 20 := by omega
  have hNl := ((digs_len v.natAbs).2 20 (by omega)).2 hN
  have HNL := Lib.hid hNl
  clear hNl hN
  go_enter Try.func21, Try.ntmps21
  go_wp2_with fail
  refine (size_any v v0 v1 w).mono ?_
  rintro en w1 ⟨rfl, rfl⟩
  have hNlt : v.natAbs < 18446744073709551616 := by omega
  generalize hn : v.natAbs = N at *
  have HN := Lib.hid hn
  clear hn
  go_wp2_with fail
  go_loopw [3, 5, 8, 9, 10, 11, 12, 13, 14, 15, 16, 17, 18, 19] (fun nv iv _ _ _ _ _ _ _ _ _ _ _ _ wr => ∃ (m j : Nat) (l : List UInt8) (cs : Array Value), nv = .int .u64 m ∧ iv = .int .i64 j ∧ m ≤ N ∧ Held wr w.heap.size j l cs ∧ digs N = digs m ++ l ∧ Below w.heap.size w wr)
    (fun nv _ _ _ _ _ _ _ _ _ _ _ _ _ _ => (intOf nv).toNat)
  case atStart => exact ⟨N, 21, [], _, rfl, rfl, Nat.le_refl _, ⟨Blk.new w _ _, rfl, rfl, rfl⟩, by simp, (Below.refl _ w).alloc (Nat.le_refl _) _⟩
  case round =>
    obtain ⟨m, j, l, cs, rfl, rfl, hmN, hh, hd, hb⟩ := hrel
    have hj : 1 ≤ j ∧ j ≤ 21 := by
      have h1 := hh.len
      have h2 := HNL.out
      have h3 := (digs_len m).1
      rw [hd, List.length_append] at h2
      omega
    obtain ⟨j, rfl⟩ : ∃ k, j = k + 1 := ⟨j - 1, by omega⟩
    obtain ⟨old, hc⟩ := hh.old
    have hf := hh.blk.frozen j
    have hput := hh.put (48 + m % 10).toUInt8
    rw [digit_toNat (show m % 10 < 10 by omega), show ((48 + m % 10 : Nat) : Int) = 48 + (m : Int) % 10 from by omega] at hput
    have HP := Lib.hid hput
    have HD := Lib.hid hd
    clear hput hd hh
    obtain ⟨hj1, hj2⟩ := hj
    by_cases hm : m < 10
    · have hd1 : digs N = (48 + m % 10).toUInt8 :: l := by
        rw [HD.out, digs_small hm, Nat.mod_eq_of_lt hm]; rfl
      have hm0 : (m : Int) / 10 = 0 := by omega
      have HD1 := Lib.hid hd1
      have hb1 := hb.setCell (p := ⟨w.heap.size, j, none⟩) (Nat.le_refl _) (.int .u8 (48 + (m : Int) % 10))
      have hlen1 := HP.out.len
      have h20 := HNL.out
      rw [hd1] at h20
      have hj0 : 1 ≤ j := by omega
      obtain ⟨k1, S1, hs1, sl1, cv1⟩ := out_b HP.out (by omega)
      have HSL := Lib.hid sl1
      have HCV := Lib.hid cv1
      have HS1 := Lib.hid hs1
      clear sl1 cv1 hs1
      clear hd1 hlen1 h20 HD HNL
      by_cases hv : v < 0
      · obtain ⟨j, rfl⟩ : ∃ k, j = k + 1 := ⟨j - 1, by omega⟩
        have hput2 := HP.out.put 45
        rw [show (((45 : UInt8).toNat : Nat) : Int) = 45 from rfl] at hput2
        obtain ⟨old2, hc2⟩ := HP.out.old
        have hf2 := HP.out.blk.frozen j
        obtain ⟨k2, S2, hs2, sl2, cv2⟩ := out_b hput2 (by omega)
        have HSL2 := Lib.hid sl2
        have HCV2 := Lib.hid cv2
        have HS2 := Lib.hid hs2
        clear sl2 cv2 hs2
        have hb2 := hb1.setCell (p := ⟨w.heap.size, j, none⟩) (Nat.le_refl _) (.int .u8 45)
        have HF : Hid (digitsF v = 45 :: (48 + m % 10).toUInt8 :: l) := by
          show digitsF v = 45 :: (48 + m % 10).toUInt8 :: l
          unfold digitsF; rw [if_pos hv, HN.out, HD1.out]
        clear hput2 HSL HCV HP
        go_wp2_with (first | rw [HSL2.out] | rw [HCV2.out])
        go_ret
        rw [HF.out, ← HS2.out]
        exact ⟨rfl, hb2⟩
      · have HF : Hid (digitsF v = (48 + m % 10).toUInt8 :: l) := by
          show digitsF v = (48 + m % 10).toUInt8 :: l
          unfold digitsF; rw [if_neg hv, HN.out, HD1.out]
        go_wp2_with (first | rw [HSL.out] | rw [HCV.out])
        go_ret
        rw [HF.out, ← HS1.out]
        exact ⟨rfl, hb1⟩
    · have hd1 : digs N = digs (m / 10) ++ ((48 + m % 10).toUInt8 :: l) := by
        rw [HD.out, digs_step (by omega), List.append_assoc]; rfl
      have HD1 := Lib.hid hd1
      have hm0 : ¬ (m : Int) / 10 = 0 := by omega
      have hm0' : ((m : Int) / 10 == 0) = false := by simp; omega
      have hb1 := hb.setCell (p := ⟨w.heap.size, j, none⟩) (Nat.le_refl _) (.int .u8 (48 + (m : Int) % 10))
      clear hd1 HD
      go_wp2_with fail
      go_roundw
      case rel => exact ⟨m / 10, j, _, _, by congr 1, rfl, by omega, HP.out, HD1.out, hb1⟩
      case measure => simp [intOf]; omega
end Go.Proofs.Ytkokgdebahgbdaa
