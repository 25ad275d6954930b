/-
  Contracts of the reference's big numbers: Of, Add, Cmp.
-/
import Derived.Test.YtkokgdebahgbdaaWords
import Derived.Test.YtkokgdebahgbdaaBigPlain
import Derived.Test.YtkokgdebahgbdaaOrd
import Derived.IntWalk
import Derived.Deep.QuietTactic
import Derived.BigQuiet
import Derived.Test.YtkokgdebahgbdaaProg
namespace Go.Proofs.Ytkokgdebahgbdaa
open Go.RowKit

def dV (l : List Nat) : Array Value := (l.map fun (d : Nat) => Value.int .i64 (d : Int)).toArray
def bigV (l : List Nat) : Value := .agg (dV l)
theorem dV_size (l : List Nat) : (dV l).size = l.length := by simp [dV]
theorem dV_at {l : List Nat} {k : Nat} (hk : k < l.length) : (dV l)[k]? = some (.int .i64 (l.getD k 0 : Int)) := by
  simp [dV, List.getElem?_eq_getElem hk]
theorem dV_set (l : List Nat) (k x : Nat) : (dV l).setIfInBounds k (.int .i64 (x : Int)) = dV (l.set k x) := by
  simp [dV, List.map_set]
/-- digits in a block -/
def BigB (w : World) (g : Nat) (l : List Nat) : Prop := Blk w g 54 (dV l)
theorem BigB.cell {w : World} {g : Nat} {l : List Nat} (h : BigB w g l) {k : Nat} (hk : k < l.length) : w.cell? ⟨g, k, none⟩ = some (.int .i64 (l.getD k 0 : Int)) := by
  rw [Blk.cell h, dV_at hk]
theorem BigB.put {w : World} {g : Nat} {l : List Nat} (h : BigB w g l) (k x : Nat) : BigB (w.setCell ⟨g, k, none⟩ (.int .i64 (x : Int))) g (l.set k x) := by
  have := Blk.set_ h k (.int .i64 (x : Int))
  rw [dV_set] at this
  exact this
theorem six {l : List Nat} (h : l.length = 6) : ∃ a b c d e f, l = [a, b, c, d, e, f] := by
  match l, h with
  | [a, b, c, d, e, f], _ => exact ⟨a, b, c, d, e, f, rfl⟩

/-- six digits stored -/
def put6 (w : World) (g a0 a1 a2 a3 a4 a5 : Nat) : World :=
  (((((w.setCell ⟨g, 0, none⟩ (.int .i64 (a0 : Int))).setCell ⟨g, 1, none⟩ (.int .i64 (a1 : Int))).setCell ⟨g, 2, none⟩ (.int .i64 (a2 : Int))).setCell ⟨g, 3, none⟩ (.int .i64 (a3 : Int))).setCell ⟨g, 4, none⟩ (.int .i64 (a4 : Int))).setCell ⟨g, 5, none⟩ (.int .i64 (a5 : Int))
theorem put6_big {w : World} {g : Nat} {l : List Nat} (h : BigB w g l) (hl : l.length = 6) (a0 a1 a2 a3 a4 a5 : Nat) : BigB (put6 w g a0 a1 a2 a3 a4 a5) g [a0, a1, a2, a3, a4, a5] := by
  obtain ⟨b0, b1, b2, b3, b4, b5, rfl⟩ := six hl
  exact (((((h.put 0 a0).put 1 a1).put 2 a2).put 3 a3).put 4 a4).put 5 a5
theorem put6_below {B : Nat} {w0 w : World} (h : Below B w0 w) {g : Nat} (hg : B ≤ g) (a0 a1 a2 a3 a4 a5 : Nat) : Below B w0 (put6 w g a0 a1 a2 a3 a4 a5) :=
  (((((h.setCell hg _).setCell hg _).setCell hg _).setCell hg _).setCell hg _).setCell hg _
theorem BigB.all {w : World} {g a0 a1 a2 a3 a4 a5 : Nat} (h : BigB w g [a0, a1, a2, a3, a4, a5]) : (w.cell? ⟨g, 0, none⟩ = some (.int .i64 (a0 : Int)) ∧ w.cell? ⟨g, 1, none⟩ = some (.int .i64 (a1 : Int)) ∧ w.cell? ⟨g, 2, none⟩ = some (.int .i64 (a2 : Int))) ∧
    (w.cell? ⟨g, 3, none⟩ = some (.int .i64 (a3 : Int)) ∧ w.cell? ⟨g, 4, none⟩ = some (.int .i64 (a4 : Int)) ∧ w.cell? ⟨g, 5, none⟩ = some (.int .i64 (a5 : Int))) :=
  ⟨⟨h.cell (k := 0) (by simp), h.cell (k := 1) (by simp), h.cell (k := 2) (by simp)⟩, h.cell (k := 3) (by simp), h.cell (k := 4) (by simp), h.cell (k := 5) (by simp)⟩
theorem BigB.free {w : World} {g : Nat} {l : List Nat} (h : BigB w g l) : (w.frozen? ⟨g, 0, none⟩ = false ∧ w.frozen? ⟨g, 1, none⟩ = false ∧ w.frozen? ⟨g, 2, none⟩ = false) ∧ (w.frozen? ⟨g, 3, none⟩ = false ∧ w.frozen? ⟨g, 4, none⟩ = false ∧ w.frozen? ⟨g, 5, none⟩ = false) :=
  ⟨⟨Blk.frozen h 0, Blk.frozen h 1, Blk.frozen h 2⟩, Blk.frozen h 3, Blk.frozen h 4, Blk.frozen h 5⟩

def BigN (w : World) (l : List Nat) (e : Ending) (w' : World) : Prop := e = .returned (bigV l) ∧ Below w.heap.size w w'

set_option maxHeartbeats 1000000 in
theorem of_any (v : Nat) (hv : v ≤ 9223372036854775807) (w : World) : Calls Try.prog 39 #[.int .i64 (v : Int)] w (BigN w (Bg.ofD 6 v)) := by
  go_enter Try.func39, Try.ntmps39
  go_wp2_with fail
  go_loopw [0, 4] (fun vv iv wr => ∃ (k : Nat) (l : List Nat), k ≤ 6 ∧ iv = .int .i64 k ∧ vv = .int .i64 ((v / 1073741824 ^ k : Nat) : Int) ∧ l = Bg.ofD k v ++ List.replicate (6 - k) 0 ∧ BigB wr (w.heap.size + 1) l ∧ BigB wr w.heap.size [0, 0, 0, 0, 0, 0] ∧ Below w.heap.size w wr) (fun _ iv _ => 6 - (intOf iv).toNat)
  case atStart =>
    refine ⟨0, _, by omega, rfl, by simp, rfl, ?_, ?_, ?_⟩
    · have := Blk.new (w.alloc (.cells (dV [0, 0, 0, 0, 0, 0]) 54)) 54 (dV [0, 0, 0, 0, 0, 0])
      have e : (w.alloc (.cells (dV [0, 0, 0, 0, 0, 0]) 54)).heap.size = w.heap.size + 1 := by simp
      rw [e] at this
      exact this
    · exact (Blk.new w 54 (dV [0, 0, 0, 0, 0, 0])).alloc _
    · exact ((Below.refl _ _).alloc (Nat.le_refl _) _).alloc (by simp) _
  case round =>
    obtain ⟨k, l, hk, rfl, rfl, rfl, h1, h2, hb⟩ := hrel
    have hll : (Bg.ofD k v ++ List.replicate (6 - k) 0).length = 6 := by simp [Bg.ofD_length]; omega
    by_cases hlt : k < 6
    · have hsn := Bg.ofD_snoc k v
      have hdn := Bg.div_next k v
      have hx : v / 1073741824 ^ k ≤ v := Nat.div_le_self _ _
      have HDN := Lib.hid hdn
      have H1 := Lib.hid h1
      have H2 := Lib.hid h2
      have hc := BigB.cell h1 (k := k) (by omega)
      have hf := Blk.frozen h1 k
      have HLL := Lib.hid hll
      clear hdn h1 h2 hll
      generalize hxv : v / 1073741824 ^ k = x at *
      have HX := Lib.hid hxv
      clear hxv
      go_wp2_with fail
      refine ⟨?rel, ?measure⟩
      case rel =>
        refine ⟨k + 1, _, by omega, by go_num, ?_, rfl, ?_, ?_, ?_⟩
        · rw [← HDN.out]; go_num
        · have := H1.out.put k (x % 1073741824)
          rw [← HX.out, Bg.ofD_put k v hlt, HX.out] at this
          exact this
        · exact Blk.far H2.out (by simp) _
        · exact hb.setCell (by simp) _
      case measure => simp [intOf]; omega
    · obtain rfl : k = 6 := by omega
      have e6 : Bg.ofD 6 v ++ List.replicate (6 - 6) 0 = Bg.ofD 6 v := by simp
      rw [e6] at h1 hll
      clear e6
      obtain ⟨a0, a1, a2, a3, a4, a5, hl⟩ := six hll
      rw [hl] at h1
      obtain ⟨⟨c0, c1, c2⟩, c3, c4, c5⟩ := h1.all
      obtain ⟨⟨d0, d1, d2⟩, d3, d4, d5⟩ := h2.all
      obtain ⟨⟨f0, f1, f2⟩, f3, f4, f5⟩ := h2.free
      have HL := Lib.hid hl
      have H2 := Lib.hid h2
      clear hl h1 h2 hll
      go_wp2_with fail
      show bodyPost _ _ _ _ _ (put6 wr w.heap.size a0 a1 a2 a3 a4 a5)
      have hB := put6_big H2.out rfl a0 a1 a2 a3 a4 a5
      have hbf := put6_below hb (Nat.le_refl _) a0 a1 a2 a3 a4 a5
      generalize put6 wr w.heap.size a0 a1 a2 a3 a4 a5 = wf at *
      clear c0 c1 c2 c3 c4 c5 d0 d1 d2 d3 d4 d5 f0 f1 f2 f3 f4 f5
      obtain ⟨⟨e0, e1, e2⟩, e3, e4, e5⟩ := hB.all
      refine bodyPost_ret (v := bigV [a0, a1, a2, a3, a4, a5]) (by simp [results, Try.results39, go_sem, bigV, dV, e0, e1, e2, e3, e4, e5]) rfl ⟨?_, hbf⟩
      rw [HL.out]
/-- a big number -/
def bg (n : Nat) : Value := bigV (Bg.ofD 6 n)

set_option maxHeartbeats 1000000 in
theorem addB_any (n m : Nat) (hs : n + m < 1073741824 ^ 6) (w : World) : Calls Try.prog 37 #[bg n, bg m] w (BigN w (Bg.ofD 6 (n + m))) := by
  have hna := Bg.ofD_val 6 n (by omega)
  have hnb := Bg.ofD_val 6 m (by omega)
  have hla := Bg.ofD_length 6 n
  have hlb := Bg.ofD_length 6 m
  have hda := Bg.ofD_dig 6 n
  have hdb := Bg.ofD_dig 6 m
  unfold bg bigV
  generalize Bg.ofD 6 n = a at *
  generalize Bg.ofD 6 m = b at *
  rw [← hna, ← hnb] at hs ⊢
  clear hna hnb
  have HS := Lib.hid hs
  have HLA := Lib.hid hla
  have HLB := Lib.hid hlb
  have HDA := Lib.hid hda
  have HDB := Lib.hid hdb
  clear hs hla hlb hda hdb
  go_enter Try.func37, Try.ntmps37
  have hA : BigB (((w.alloc (.cells (dV a) 54)).alloc (.cells (dV b) 54)).alloc (.cells (dV [0, 0, 0, 0, 0, 0]) 54)) w.heap.size a := ((Blk.new w _ _).alloc _).alloc _
  have hB : BigB (((w.alloc (.cells (dV a) 54)).alloc (.cells (dV b) 54)).alloc (.cells (dV [0, 0, 0, 0, 0, 0]) 54)) (w.heap.size + 1) b := by
    have := (Blk.new (w.alloc (.cells (dV a) 54)) 54 (dV b)).alloc (.cells (dV [0, 0, 0, 0, 0, 0]) 54)
    have e : (w.alloc (.cells (dV a) 54)).heap.size = w.heap.size + 1 := by simp
    rw [e] at this
    exact this
  have hC : BigB (((w.alloc (.cells (dV a) 54)).alloc (.cells (dV b) 54)).alloc (.cells (dV [0, 0, 0, 0, 0, 0]) 54)) (w.heap.size + 1 + 1) [0, 0, 0, 0, 0, 0] := by
    have := Blk.new ((w.alloc (.cells (dV a) 54)).alloc (.cells (dV b) 54)) 54 (dV [0, 0, 0, 0, 0, 0])
    have e : ((w.alloc (.cells (dV a) 54)).alloc (.cells (dV b) 54)).heap.size = w.heap.size + 1 + 1 := by simp
    rw [e] at this
    exact this
  have HA := Lib.hid hA
  have HB := Lib.hid hB
  have HC := Lib.hid hC
  clear hA hB hC
  go_wp2_with fail
  go_loopw [5, 6] (fun cv iv wr => ∃ (k c : Nat) (l : List Nat), k ≤ 6 ∧ iv = .int .i64 k ∧ cv = .int .i64 c ∧ Bg.Adds a b l k c ∧ BigB wr w.heap.size l ∧ BigB wr (w.heap.size + 1) b ∧ BigB wr (w.heap.size + 1 + 1) [0, 0, 0, 0, 0, 0] ∧ Below w.heap.size w wr) (fun _ iv _ => 6 - (intOf iv).toNat)
  case atStart => exact ⟨0, 0, a, by omega, rfl, rfl, Bg.Adds.start HLA.out HDA.out, HA.out, HB.out, HC.out, (((Below.refl _ _).alloc (Nat.le_refl _) _).alloc (by simp) _).alloc (by simp; omega) _⟩
  case round =>
    obtain ⟨k, c, l, hk, rfl, rfl, hadd, h1, h2, h3, hbel⟩ := hrel
    have HLL := Lib.hid hadd.len
    by_cases hlt : k < 6
    · have hnext := hadd.next HLB.out HDB.out hlt
      have hx := hadd.dig.at_ k
      have hy := HDB.out.at_ k
      have hc1 := hadd.car
      have hcx := h1.cell (k := k) (by rw [hadd.len]; exact hlt)
      have hcy := h2.cell (k := k) (by rw [HLB.out]; exact hlt)
      have hf := Blk.frozen h1 k
      have HP := Lib.hid (h1.put k ((c + l.getD k 0 + b.getD k 0) % 1073741824))
      have HNX := Lib.hid hnext
      have H1 := Lib.hid h1
      have H2 := Lib.hid h2
      have H3 := Lib.hid h3
      clear hnext hadd h1 h2 h3
      generalize l.getD k 0 = x at *
      generalize b.getD k 0 = y at *
      go_wp2_with fail
      go_quiet (fail)
      go_wp2_with fail
      refine ⟨?rel, ?measure⟩
      case rel =>
        have e : (((c + x + y) % 1073741824 : Nat) : Int) = ((c : Int) + x + y) % 1073741824 := by omega
        have hp := BigB.put (Blk.drewN H1.out nq) k ((c + x + y) % 1073741824)
        rw [e] at hp
        exact ⟨k + 1, _, _, by omega, by go_num, by go_num, HNX.out, hp, Blk.far (Blk.drewN H2.out nq) (by simp) _, Blk.far (Blk.drewN H3.out nq) (by simp; omega) _, (below_drewN hbel nq).setCell (by simp) _⟩
      case measure => simp [intOf]; omega
    · obtain rfl : k = 6 := by omega
      have hdone := hadd.done HLB.out HS.out
      have HDN := Lib.hid hdone
      clear hdone hadd
      obtain ⟨a0, a1, a2, a3, a4, a5, hl⟩ := six HLL.out
      rw [hl] at h1
      obtain ⟨⟨c0, c1, c2⟩, c3, c4, c5⟩ := h1.all
      obtain ⟨⟨d0, d1, d2⟩, d3, d4, d5⟩ := h3.all
      obtain ⟨⟨f0, f1, f2⟩, f3, f4, f5⟩ := h3.free
      have HL := Lib.hid hl
      have H3 := Lib.hid h3
      clear hl h1 h3
      go_wp2_with fail
      show bodyPost _ _ _ _ _ (put6 wr (w.heap.size + 1 + 1) a0 a1 a2 a3 a4 a5)
      have hB := put6_big H3.out rfl a0 a1 a2 a3 a4 a5
      have hbf := put6_below hbel (show w.heap.size ≤ w.heap.size + 1 + 1 by omega) a0 a1 a2 a3 a4 a5
      generalize put6 wr (w.heap.size + 1 + 1) a0 a1 a2 a3 a4 a5 = wf at *
      clear c0 c1 c2 c3 c4 c5 d0 d1 d2 d3 d4 d5 f0 f1 f2 f3 f4 f5
      obtain ⟨⟨e0, e1, e2⟩, e3, e4, e5⟩ := hB.all
      refine bodyPost_ret (v := bigV [a0, a1, a2, a3, a4, a5]) (by simp [results, Try.results37, go_sem, bigV, dV, e0, e1, e2, e3, e4, e5]) rfl ⟨?_, hbf⟩
      rw [← HDN.out, HL.out]

/-- which is greater -/
def cmpI (n m : Nat) : Int := if n < m then -1 else if m < n then 1 else 0
set_option maxHeartbeats 1000000 in
theorem cmp_any (n m : Nat) (hn : n < 1073741824 ^ 6) (hm : m < 1073741824 ^ 6) (w : World) : Calls Try.prog 38 #[bg n, bg m] w fun e w' => e = .returned (.int .i64 (cmpI n m)) ∧ Below w.heap.size w w' := by
  have hna := Bg.ofD_val 6 n (by omega)
  have hnb := Bg.ofD_val 6 m (by omega)
  have hla := Bg.ofD_length 6 n
  have hlb := Bg.ofD_length 6 m
  have hda := Bg.ofD_dig 6 n
  have hdb := Bg.ofD_dig 6 m
  unfold bg bigV
  generalize Bg.ofD 6 n = a at *
  generalize Bg.ofD 6 m = b at *
  rw [← hna, ← hnb]
  clear hna hnb hn hm
  have HLA := Lib.hid hla
  have HLB := Lib.hid hlb
  have HDA := Lib.hid hda
  have HDB := Lib.hid hdb
  clear hla hlb hda hdb
  have hA : BigB ((w.alloc (.cells (dV a) 54)).alloc (.cells (dV b) 54)) w.heap.size a := (Blk.new w _ _).alloc _
  have hB : BigB ((w.alloc (.cells (dV a) 54)).alloc (.cells (dV b) 54)) (w.heap.size + 1) b := by
    have := Blk.new (w.alloc (.cells (dV a) 54)) 54 (dV b)
    have e : (w.alloc (.cells (dV a) 54)).heap.size = w.heap.size + 1 := by simp
    rw [e] at this
    exact this
  have hbw : Below w.heap.size w ((w.alloc (.cells (dV a) 54)).alloc (.cells (dV b) 54)) := ((Below.refl _ _).alloc (Nat.le_refl _) _).alloc (by simp) _
  go_enter Try.func38, Try.ntmps38
  go_wp2_with fail
  generalize (w.alloc (.cells (dV a) 54)).alloc (.cells (dV b) 54) = w0 at *
  have HA := Lib.hid hA
  have HB := Lib.hid hB
  have HBW := Lib.hid hbw
  clear hA hB hbw
  go_loopw [5] (fun iv wr => ∃ (k q : Nat), k ≤ 6 ∧ iv = .int .i64 ((k : Int) - 1) ∧ a.drop k = b.drop k ∧ wr = w0.drewN q) (fun iv _ => (intOf iv + 1).toNat)
  case atStart => exact ⟨6, 0, by omega, rfl, by rw [List.drop_of_length_le (by rw [HLA.out]; omega), List.drop_of_length_le (by rw [HLB.out]; omega)], rfl⟩
  case round =>
    obtain ⟨k, q, hk, rfl, hdrop, rfl⟩ := hrel
    have H1 := Lib.hid (Blk.drewN HA.out q)
    have H2 := Lib.hid (Blk.drewN HB.out q)
    have HBL := Lib.hid (below_drewN HBW.out q)
    have HW : Hid (∃ q', w0.drewN q = w0.drewN q') := Lib.hid ⟨q, rfl⟩
    generalize w0.drewN q = wr at *
    have HDR := Lib.hid hdrop
    clear hdrop
    rcases k with _ | i
    · have ei : ((0 : Nat) : Int) - 1 = -1 := rfl
      rw [ei]
      clear ei
      have hab : a = b := by have := HDR.out; simpa using this
      have HF := Lib.hid (show cmpI (Bg.val a) (Bg.val b) = 0 from by unfold cmpI; rw [hab, if_neg (by omega), if_neg (by omega)])
      clear hab
      go_wp2_with fail
      go_ret
      exact ⟨ret_int HF.out.symm, HBL.out⟩
    · have ei : ((i + 1 : Nat) : Int) - 1 = (i : Int) := by omega
      rw [ei]
      clear ei
      have hi6 : i < 6 := by omega
      have hcx := BigB.cell H1.out (k := i) (by rw [HLA.out]; exact hi6)
      have hcy := BigB.cell H2.out (k := i) (by rw [HLB.out]; exact hi6)
      have hx := HDA.out.at_ i
      have hy := HDB.out.at_ i
      have hlt1 : a.getD i 0 < b.getD i 0 → Bg.val a < Bg.val b := Bg.cmp_at HDA.out (by rw [HLA.out, HLB.out]) (by rw [HLA.out]; exact hi6) HDR.out
      have hlt2 : b.getD i 0 < a.getD i 0 → Bg.val b < Bg.val a := Bg.cmp_at HDB.out (by rw [HLA.out, HLB.out]) (by rw [HLB.out]; exact hi6) HDR.out.symm
      have hnx : a.getD i 0 = b.getD i 0 → a.drop i = b.drop i := fun e => by rw [Bg.drop_next (l := a) (i := i) (by rw [HLA.out]; exact hi6), Bg.drop_next (l := b) (i := i) (by rw [HLB.out]; exact hi6), e, HDR.out]
      have L1 := Lib.hid hlt1
      have L2 := Lib.hid hlt2
      have NX := Lib.hid hnx
      clear hlt1 hlt2 hnx
      generalize a.getD i 0 = x at *
      generalize b.getD i 0 = y at *
      by_cases hlt : x < y
      · have HF := Lib.hid (show cmpI (Bg.val a) (Bg.val b) = -1 from by unfold cmpI; rw [if_pos (L1.out hlt)])
        go_wp2_with fail
        go_quiet (fail)
        go_wp2_with fail
        go_ret
        exact ⟨ret_int HF.out.symm, below_drewN HBL.out nq⟩
      · by_cases hgt : y < x
        · have HF := Lib.hid (show cmpI (Bg.val a) (Bg.val b) = 1 from by unfold cmpI; have := L2.out hgt; rw [if_neg (by omega), if_pos this])
          go_wp2_with fail
          go_quiet (fail)
          go_wp2_with fail
          go_quiet (fail)
          go_wp2_with fail
          go_ret
          exact ⟨ret_int HF.out.symm, below_drewN (below_drewN HBL.out _) _⟩
        · have HE := Lib.hid (show x = y by omega)
          go_wp2_with fail
          go_quiet (fail)
          go_wp2_with fail
          go_quiet (fail)
          go_wp2_with fail
          refine ⟨?rel, ?measure⟩
          case rel =>
            obtain ⟨q', hq⟩ := HW.out
            exact ⟨i, _, by omega, by go_num, NX.out HE.out, by rw [hq]; simp only [World.drewN_drewN]; rfl⟩
          case measure => simp [intOf]
end Go.Proofs.Ytkokgdebahgbdaa
