/-
  The contract of the reference's big product.
-/
import Derived.Test.YtkokgdebahgbdaaBigA
namespace Go.Proofs.Ytkokgdebahgbdaa
open Go.RowKit

set_option maxHeartbeats 2000000 in
theorem mulB_any (n m : Nat) (hn : n < 1073741824 ^ 6) (hm : m < 1073741824 ^ 6) (hs : n * m < 1073741824 ^ 6) (w : World) : Calls Try.prog 44 #[bg n, bg m] w (BigN w (Bg.ofD 6 (n * m))) := by
  have hna := Bg.ofD_val 6 n hn
  have hnb := Bg.ofD_val 6 m hm
  have hla := Bg.ofD_length 6 n
  have hlb := Bg.ofD_length 6 m
  have hda := Bg.ofD_dig 6 n
  have hdb := Bg.ofD_dig 6 m
  unfold bg bigV
  generalize Bg.ofD 6 n = a at *
  generalize Bg.ofD 6 m = b at *
  rw [← hna, ← hnb] at hs ⊢
  clear hna hnb hn hm
  have HS := Lib.hid hs
  have HLA := Lib.hid hla
  have HLB := Lib.hid hlb
  have HDA := Lib.hid hda
  have HDB := Lib.hid hdb
  clear hs hla hlb hda hdb
  have hA : BigB ((((w.alloc (.cells (dV a) 54)).alloc (.cells (dV b) 54)).alloc (.cells (dV [0, 0, 0, 0, 0, 0]) 54)).alloc (.cells (dV [0, 0, 0, 0, 0, 0]) 54)) w.heap.size a := (((Blk.new w _ _).alloc _).alloc _).alloc _
  have hB : BigB ((((w.alloc (.cells (dV a) 54)).alloc (.cells (dV b) 54)).alloc (.cells (dV [0, 0, 0, 0, 0, 0]) 54)).alloc (.cells (dV [0, 0, 0, 0, 0, 0]) 54)) (w.heap.size + 1) b := by
    have := ((Blk.new (w.alloc (.cells (dV a) 54)) 54 (dV b)).alloc (.cells (dV [0, 0, 0, 0, 0, 0]) 54)).alloc (.cells (dV [0, 0, 0, 0, 0, 0]) 54)
    have e : (w.alloc (.cells (dV a) 54)).heap.size = w.heap.size + 1 := by simp
    rw [e] at this
    exact this
  have hC : BigB ((((w.alloc (.cells (dV a) 54)).alloc (.cells (dV b) 54)).alloc (.cells (dV [0, 0, 0, 0, 0, 0]) 54)).alloc (.cells (dV [0, 0, 0, 0, 0, 0]) 54)) (w.heap.size + 1 + 1) [0, 0, 0, 0, 0, 0] := by
    have := (Blk.new ((w.alloc (.cells (dV a) 54)).alloc (.cells (dV b) 54)) 54 (dV [0, 0, 0, 0, 0, 0])).alloc (.cells (dV [0, 0, 0, 0, 0, 0]) 54)
    have e : ((w.alloc (.cells (dV a) 54)).alloc (.cells (dV b) 54)).heap.size = w.heap.size + 1 + 1 := by simp
    rw [e] at this
    exact this
  have hD : BigB ((((w.alloc (.cells (dV a) 54)).alloc (.cells (dV b) 54)).alloc (.cells (dV [0, 0, 0, 0, 0, 0]) 54)).alloc (.cells (dV [0, 0, 0, 0, 0, 0]) 54)) (w.heap.size + 1 + 1 + 1) [0, 0, 0, 0, 0, 0] := by
    have := Blk.new (((w.alloc (.cells (dV a) 54)).alloc (.cells (dV b) 54)).alloc (.cells (dV [0, 0, 0, 0, 0, 0]) 54)) 54 (dV [0, 0, 0, 0, 0, 0])
    have e : (((w.alloc (.cells (dV a) 54)).alloc (.cells (dV b) 54)).alloc (.cells (dV [0, 0, 0, 0, 0, 0]) 54)).heap.size = w.heap.size + 1 + 1 + 1 := by simp
    rw [e] at this
    exact this
  have HA := Lib.hid hA
  have HB := Lib.hid hB
  have HC := Lib.hid hC
  have HD := Lib.hid hD
  clear hA hB hC hD
  go_enter Try.func44, Try.ntmps44
  go_wp2_with fail
  go_loopw [6, 7, 8] (fun iv _ _ wr => ∃ (i : Nat) (l : List Nat), i ≤ 6 ∧ iv = .int .i64 i ∧ Bg.Rows6 a b l i ∧ BigB wr w.heap.size a ∧ BigB wr (w.heap.size + 1) b ∧ BigB wr (w.heap.size + 1 + 1) [0, 0, 0, 0, 0, 0] ∧ BigB wr (w.heap.size + 1 + 1 + 1) l ∧ Below w.heap.size w wr) (fun iv _ _ _ => 6 - (intOf iv).toNat)
  case atStart => exact ⟨0, _, by omega, rfl, Bg.Rows6.start, HA.out, HB.out, HC.out, HD.out, ((((Below.refl _ _).alloc (Nat.le_refl _) _).alloc (by simp) _).alloc (by simp; omega) _).alloc (by simp; omega) _⟩
  case round =>
    obtain ⟨i, l0, hi, rfl, hrow, h1, h2, h3, h4, hbel⟩ := hrel
    have HROW := Lib.hid hrow
    have H1 := Lib.hid h1
    have H2 := Lib.hid h2
    have H3 := Lib.hid h3
    have H4 := Lib.hid h4
    have HBL := Lib.hid hbel
    clear hrow h1 h2 h3 h4 hbel
    by_cases hlt : i < 6
    · have hxb := HDA.out.at_ i
      generalize hxa : a.getD i 0 = x at *
      have HXA := Lib.hid hxa
      clear hxa
      obtain ⟨wo, rfl⟩ : ∃ wo : World, wo = wr := ⟨_, rfl⟩
      go_wp2_with fail
      go_loopw [7, 8] (fun cv kv wr => ∃ (k c : Nat) (l : List Nat), i + k ≤ 6 ∧ kv = .int .i64 k ∧ cv = .int .i64 c ∧ Bg.Muls l0 x b l i k c ∧ BigB wr w.heap.size a ∧ BigB wr (w.heap.size + 1) b ∧ BigB wr (w.heap.size + 1 + 1) [0, 0, 0, 0, 0, 0] ∧ BigB wr (w.heap.size + 1 + 1 + 1) l ∧ Below w.heap.size w wr) (fun _ kv _ => 6 - (intOf kv).toNat)
      case atStart => exact ⟨0, 0, l0, by omega, rfl, rfl, Bg.Muls.start HROW.out.len HROW.out.dig, H1.out, H2.out, H3.out, H4.out, HBL.out⟩
      case round =>
        obtain ⟨k, c, l, hk, rfl, rfl, hm, h1, h2, h3, h4, hbel⟩ := hrel
        by_cases hlk : i + k < 6
        · have hnext := hm.next HLB.out HDB.out hxb hlk
          have hcx := h1.cell (k := i) (by rw [HLA.out]; exact hlt)
          rw [HXA.out] at hcx
          have hcy := h2.cell (k := k) (by rw [HLB.out]; omega)
          have hco := h4.cell (k := i + k) (by rw [hm.len]; exact hlk)
          have hf := Blk.frozen h4 (i + k)
          have hyb := HDB.out.at_ k
          have hob := hm.dig.at_ (i + k)
          have hcb := hm.car
          have hbd := Bg.mul_bound hcb hob hxb hyb
          have HM := Lib.hid hm
          have HNX := Lib.hid hnext
          have K1 := Lib.hid h1
          have K2 := Lib.hid h2
          have K3 := Lib.hid h3
          have K4 := Lib.hid h4
          clear hnext hm h1 h2 h3 h4
          generalize b.getD k 0 = y at *
          generalize l.getD (i + k) 0 = o at *
          have hlk2 : (i : Int) + (k : Int) < 6 := by omega
          have hmul : (x : Int) * (y : Int) = ((x * y : Nat) : Int) := by simp
          generalize hz : x * y = z at *
          have HZ := Lib.hid hz
          clear hz
          go_wp2_with fail
          have hsum : IntKind.i64.wrap ((i : Int) + (k : Int)) = (i : Int) + (k : Int) := IntWalk.i64_in _ (by omega)
          have hsum2 : ((i : Int) + (k : Int)).toNat = i + k := by omega
          have hsum0 : (0 : Int) ≤ (i : Int) + (k : Int) := by omega
          go_quiet (fail)
          clear hsum hsum0
          go_wp2_with fail
          clear hsum2
          refine ⟨?rel, ?measure⟩
          case rel =>
            have e : (((c + o + z) % 1073741824 : Nat) : Int) = ((c : Int) + o + z) % 1073741824 := by omega
            have hp := BigB.put (Blk.drewN K4.out nq) (i + k) ((c + o + z) % 1073741824)
            rw [e] at hp
            have hn := HNX.out
            exact ⟨k + 1, _, _, by omega, by go_num, by go_num, hn, Blk.far (Blk.drewN K1.out nq) (by simp; omega) _, Blk.far (Blk.drewN K2.out nq) (by simp) _, Blk.far (Blk.drewN K3.out nq) (by simp) _, hp, (below_drewN hbel nq).setCell (by simp; omega) _⟩
          case measure => simp [intOf]; omega
        · obtain rfl : k = 6 - i := by omega
          have HRN := Lib.hid (HROW.out.next HLA.out HLB.out hlt (by rw [HXA.out]; exact hm))
          have hlk2 : ¬ (i : Int) + ((6 - i : Nat) : Int) < 6 := by omega
          go_wp2_with fail
          refine ⟨?rel, ?measure⟩
          case rel => exact ⟨i + 1, l, by omega, by go_num, HRN.out, h1, h2, h3, h4, hbel⟩
          case measure => simp [intOf]; omega
    · obtain rfl : i = 6 := by omega
      have hdone := HROW.out.done HLA.out HS.out
      have HDN := Lib.hid hdone
      clear hdone
      obtain ⟨a0, a1, a2, a3, a4, a5, hl⟩ := six HROW.out.len
      have h4 := H4.out
      have h3 := H3.out
      rw [hl] at h4
      obtain ⟨⟨c0, c1, c2⟩, c3, c4, c5⟩ := h4.all
      obtain ⟨⟨d0, d1, d2⟩, d3, d4, d5⟩ := h3.all
      obtain ⟨⟨f0, f1, f2⟩, f3, f4, f5⟩ := h3.free
      have HL := Lib.hid hl
      have H3 := Lib.hid h3
      clear hl h4 h3
      go_wp2_with fail
      show bodyPost _ _ _ _ _ (put6 wr (w.heap.size + 1 + 1) a0 a1 a2 a3 a4 a5)
      have hB := put6_big H3.out rfl a0 a1 a2 a3 a4 a5
      have hbf := put6_below HBL.out (show w.heap.size ≤ w.heap.size + 1 + 1 by omega) a0 a1 a2 a3 a4 a5
      generalize put6 wr (w.heap.size + 1 + 1) a0 a1 a2 a3 a4 a5 = wf at *
      clear c0 c1 c2 c3 c4 c5 d0 d1 d2 d3 d4 d5 f0 f1 f2 f3 f4 f5
      obtain ⟨⟨e0, e1, e2⟩, e3, e4, e5⟩ := hB.all
      refine bodyPost_ret (v := bigV [a0, a1, a2, a3, a4, a5]) (by simp [results, Try.results44, go_sem, bigV, dV, e0, e1, e2, e3, e4, e5]) rfl ⟨?_, hbf⟩
      rw [← HDN.out, HL.out]
end Go.Proofs.Ytkokgdebahgbdaa
