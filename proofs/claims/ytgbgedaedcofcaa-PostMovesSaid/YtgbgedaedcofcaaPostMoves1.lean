/-
  PostMoves: from the issue on.
-/
import Derived.Test.YtgbgedaedcofcaaPstLO
namespace Go.Proofs.Ytgbgedaedcofcaa
open Go Go.RowKit
attribute [local irreducible] run goO leaveK someK nextK nextT nextOT nextOD loopBody loopRest loopK fillJ tmplOf tmplJ mergeT At AtO drawOk ordOf gateOf callC callO topOp topO idxOf appOf storeOf clearOf sliceOf calleeOf calleeO topQ idxQ newRowOf resL stepOp seek
theorem moves_get1 {g : Nat} {a : ByteArray} {n : Int} (h : addC (0, 0, 0) 0 n = 0) (k : Key) : addF (getM (newS g).l) (a, ⟨#[88]⟩) 0 n k = if k = (a, ⟨#[88]⟩) then (n, 0, 0) else (0, 0, 0) := by
  have h0 : ∀ q, getM (newS g).l q = (0, 0, 0) := fun _ => rfl
  unfold addF
  rw [h0, h0, h]
  by_cases hk : k = (a, ⟨#[88]⟩)
  · rw [if_pos ⟨rfl, hk⟩, if_pos hk]
    simp [setB, partB]
  · rw [if_neg (fun e => hk e.2), if_neg hk]
theorem addC_free {b : B3} {z : Int} (h : -1152921504606846976 ≤ z ∧ z ≤ 1152921504606846976) (h1 : 0 ≤ b.1 + z) (h2 : b.1 + z ≤ 1152921504606846976) : addC b 0 z = 0 := by
  unfold addC
  rw [if_pos (by omega), if_neg (by show ¬ b.1 + z < 0; omega), if_neg (by show ¬ 1152921504606846976 < b.1 + z; omega)]
def mvB (a b c : ByteArray) (x y : Int) (k : Key) : B3 := if k = (a, c) then (x, 0, 0) else if k = (b, c) then (y, 0, 0) else (0, 0, 0)
theorem mvB_move {s : LSt} {a b c : ByteArray} {x y z : Int} (hab : a ≠ b) (hg : ∀ k, getM s.l k = mvB a b c x y k) (hlb : s.lb = []) (hz : 0 ≤ z ∧ z ≤ x) (hx : x ≤ 1152921504606846976) (hy : 0 ≤ y) (hyz : y + z ≤ 1152921504606846976) :
    lookC s (moveL a b c z) = 0 ∧ ∀ k, applyF (moveL a b c z) (getM s.l) (lookL s (moveL a b c z)) k = mvB a b c (x - z) (y + z) k := by
  have hneK : ((b, c) : Key) ≠ (a, c) := fun e => hab (congrArg (·.1) e).symm
  have hA : getM s.l (a, c) = (x, 0, 0) := by rw [hg]; unfold mvB; rw [if_pos rfl]
  have hB : getM s.l (b, c) = (y, 0, 0) := by rw [hg]; unfold mvB; rw [if_neg hneK, if_pos rfl]
  have pA : partM (getM s.l (a, c)) 0 = x := by rw [hA]; rfl
  have pB : partM (getM s.l (b, c)) 0 = y := by rw [hB]; rfl
  have hl : lookC s (moveL a b c z) = 0 := by
    rw [move_look hab (by omega) (by rw [hlb]; rfl) (by omega) (by omega) (by omega) (by omega), pA, if_neg (by omega)]
  refine ⟨hl, fun k => ?_⟩
  rw [move_apply hab (by omega) hl (addC_free (by omega) (by rw [hA]; show 0 ≤ x + -z; omega) (by rw [hA]; show x + -z ≤ _; omega)) (addC_free (by omega) (by rw [hB]; show 0 ≤ y + z; omega) (by rw [hB]; exact hyz)), hg]
  unfold mvB
  by_cases h1 : k = (a, c)
  · simp only [if_pos h1]
    rfl
  · by_cases h2 : k = (b, c)
    · simp only [if_neg h1, if_pos h2]
      rfl
    · simp only [if_neg h1, if_neg h2]
theorem mvB_swap {a b c : ByteArray} {x y : Int} (hab : a ≠ b) (k : Key) : mvB a b c x y k = mvB b a c y x k := by
  unfold mvB
  by_cases h1 : k = (a, c)
  · have : k ≠ (b, c) := fun e => hab (congrArg (·.1) (h1.symm.trans e))
    rw [if_pos h1, if_neg this, if_pos h1]
  · by_cases h2 : k = (b, c)
    · rw [if_neg h1, if_pos h2, if_pos h2]
    · rw [if_neg h1, if_neg h2, if_neg h2, if_neg h1]
theorem mv_px {a b c : ByteArray} {n m : Int} {l : List (Ent Key B3)} (hab : a ≠ b) (h : ∀ k, getM l k = mvB b a c (m - m) (n - m + m) k) : partM (getM l (a, c)) 0 = n := by
  rw [h, ← mvB_swap hab]
  unfold mvB
  rw [if_pos rfl]
  show n - m + m = n
  omega
theorem mv_wy {a b c : ByteArray} {n m : Int} {l : List (Ent Key B3)} (h : ∀ k, getM l k = mvB b a c (m - m) (n - m + m) k) : clampV (sum3 (getM l (b, c))) = 0 := by
  rw [h]
  unfold mvB
  rw [if_pos rfl]
  show clampV (m - m + (0 + 0)) = 0
  rw [clamp_in (by omega)]
  omega
set_option maxRecDepth 100000 in
set_option maxHeartbeats 4000000 in
theorem moves_last {ρ : Nm} {w0 w : World} {B gl g : Nat} {a b : ByteArray} {n m : Int} {s : LSt} (hR : Rel [] w0 ρ [⟨ptrG g, false⟩, ⟨[LS a, LS ⟨#[88]⟩], true⟩, ⟨[LS b, LS ⟨#[88]⟩], true⟩] w) (hld : LdO ρ [⟨ptrG g, false⟩, ⟨[LS a, LS ⟨#[88]⟩], true⟩, ⟨[LS b, LS ⟨#[88]⟩], true⟩] w B gl s) (hBw : w0.heap.size ≤ B) (hn : 0 ≤ n ∧ n ≤ 1099511627776) (hm : 0 ≤ m ∧ m ≤ n) (ha : a.size ≤ 100) (hb : b.size ≤ 100) (hab : a ≠ b) (hsg : s.g = g) (hlb : s.lb = []) (hg2 : ∀ k, getM s.l k = mvB a b ⟨#[88]⟩ (n - m) m k) (d : Nat → Value) :
    At Try.prog (bodyPost Try.prog Try.f9 (fun e w' => e = .returned (.bool true) ∧ Below w0.heap.size w0 w')) ⟨regK Try.f9 14, fillJ (tmplJ Try.f9.ntmps 0 [(0, LS a), (1, LS b), (2, LI n), (3, LI m), (9, .ptr 0 0), (10, .ptr 1 0), (11, .ptr 2 0)]) d 0, [⟨ptrG g, false⟩, ⟨[LS a, LS ⟨#[88]⟩], true⟩, ⟨[LS b, LS ⟨#[88]⟩], true⟩]⟩ ρ w := by
  have e0 := hld.at_
  have hag := Rel.ag_ hR 1 (by kernel_rfl)
  have hX : (⟨#[88]⟩ : ByteArray).size ≤ 281474976710656 := by decide
  have ha2 : a.size ≤ 281474976710656 := by omega
  have hb2 : b.size ≤ 281474976710656 := by omega
  have hzm : -4611686018427387904 ≤ m ∧ m ≤ 4611686018427387904 := by omega
  have hsa : a.size ≤ 9223372036854775807 := by omega
  have hsb : b.size ≤ 9223372036854775807 := by omega
  have hsX : (⟨#[88]⟩ : ByteArray).size ≤ 9223372036854775807 := by decide
  obtain ⟨hlk, hap⟩ := mvB_move (s := s) (z := m) hab.symm (fun k => (hg2 k).trans (mvB_swap hab k)) hlb (by omega) (by omega) (by omega) (by omega)
  have hneK : ((b, ⟨#[88]⟩) : Key) ≠ (a, ⟨#[88]⟩) := fun e => hab (congrArg (·.1) e).symm
  refine sim_draw [] (by kernel_rfl) (by kernel_rfl) (hR.cast (by kernel_rfl)) (fun hR700 => ?_)
  have hld := hld.drew
  refine sim_ord_call (T := []) (w0 := w0) 23 [] (by kernel_rfl) ?_
  refine Calls.mono (alive11_any _) ?_
  rintro e701 w701 ⟨rfl, hb701⟩
  have hR701 := (hR700).call hb701 (LB true)
  have hld := hld.below hb701
  refine BackO.of (LB true) hR701 rfl ?_
  refine sim_ordN 5 [] hR701 (by kernel_rfl) trivial (fun ρ702 w702 hm702 hR702 => ?_)
  have hag := hag.moved (hm702.castL (by kernel_rfl))
  have hld := hld.moved (hm702.castL (by kernel_rfl))
  refine sim_ord_call (T := []) (w0 := w0) 26 [LS b, LS a, LS (ByteArray.mk #[88]), LI m] (by kernel_rfl) ?_
  refine Calls.mono (move_any (b) (a) (⟨#[88]⟩) (m) _ (hzm) (hsb) (hsa) (hsX)) ?_
  rintro e703 w703 ⟨gp, op, rfl, hgp703, hps, hb703⟩
  have hR703 := (hR702).call hb703 (.v (.slice (some ⟨gp, op, none⟩) 2 2))
  have hld := hld.below hb703
  refine BackO.of (.v (.slice (some ⟨gp, op, none⟩) 2 2)) hR703 rfl ?_
  refine sim_ord_call (T := []) (w0 := w0) 29 [.ptr 0 0, .v (Value.slice (some (Addr.mk gp op none)) 2 2)] (by kernel_rfl) ?_
  have ez0_704 := (hag.at_ 0 (by omega)).trans e0
  simp only [denL, LV.den, Nm.at_, ez0_704, Nat.add_zero]
  refine Calls.mono (apply_any _ (gl) _ (s) _ _ _ (moveL b a ⟨#[88]⟩ m) _ hld.ld (by assumption) (by omega) ((by decide)) (move_short hb2 ha2 hX)) ?_
  rintro e704 w704 ⟨rfl, m3, l3, ck3, hl704, hget, hlen, hk704, hv704⟩
  obtain ⟨hld2, hQ704⟩ := hld.afterL (hR703).rel hBw hl704 rfl (hk704.mono (fun x hx => .inl (.inr (hx.elim .inl (fun e => .inr (.inl e)))))) (fun x hx => setPos_has hv704 hx) (by rw [hsg]; kernel_rfl) [] (by kernel_rfl) (by simp)
  clear hld
  have hld := hld2
  clear hld2
  have hg3 : ∀ k, getM l3 k = mvB b a ⟨#[88]⟩ (m - m) (n - m + m) k := fun k => (hget k).trans (hap k)
  have hpx := mv_px hab hg3
  have hwy := mv_wy hg3
  have hR704 := (hR703).with hQ704 (LI 0)
  refine BackO.of (LI 0) hR704 (by rw [hlk]; rfl) ?_
  refine sim_ordN 9 [] hR704 (by kernel_rfl) trivial (fun ρ705 w705 hm705 hR705 => ?_)
  have hag := hag.moved (hm705.castL (by kernel_rfl))
  have hld := hld.moved (hm705.castL (by kernel_rfl))
  refine sim_ord_call (T := []) (w0 := w0) 19 [.v (Value.pointer (some (Addr.mk g 0 none))), .agg [LS a, LS (ByteArray.mk #[88])], LI 0] (by kernel_rfl) ?_
  refine Calls.mono (part_po _ _ (m3) (l3) (ck3) _ _ _ _ (pos_g hld.ld hsg)) ?_
  rw [hpx]
  rintro e706 w706 ⟨rfl, hb706⟩
  have hR706 := (hR705).call hb706 (LI n)
  have hld := hld.below hb706
  refine BackO.of (LI n) hR706 rfl ?_
  refine sim_ordN 3 [] hR706 (by kernel_rfl) trivial (fun ρ707 w707 hm707 hR707 => ?_)
  have hag := hag.moved (hm707.castL (by kernel_rfl))
  have hld := hld.moved (hm707.castL (by kernel_rfl))
  refine sim_knowO hR707 144 (n == n) true (by kernel_rfl) (decide_eq_true (by omega)) (fun hR708 => ?_)
  refine sim_ordN 5 [] hR708 (by kernel_rfl) trivial (fun ρ709 w709 hm709 hR709 => ?_)
  have hag := hag.moved (hm709.castL (by kernel_rfl))
  have hld := hld.moved (hm709.castL (by kernel_rfl))
  refine sim_ord_call (T := []) (w0 := w0) 22 [.v (Value.pointer (some (Addr.mk g 0 none))), .agg [LS b, LS (ByteArray.mk #[88])]] (by kernel_rfl) ?_
  refine Calls.mono (whole_po _ _ (m3) (l3) (ck3) _ _ _ (pos_g hld.ld hsg)) ?_
  rw [hwy]
  rintro e710 w710 ⟨rfl, hb710⟩
  have hR710 := (hR709).call hb710 (LI 0)
  have hld := hld.below hb710
  refine BackO.of (LI 0) hR710 rfl ?_
  refine sim_ordN 3 [] hR710 (by kernel_rfl) trivial (fun ρ711 w711 hm711 hR711 => ?_)
  have hag := hag.moved (hm711.castL (by kernel_rfl))
  have hld := hld.moved (hm711.castL (by kernel_rfl))
  refine sim_ord_endR hR711 (by kernel_rfl) (fun hR712 => ?_)
  refine sim_ret (LB true) (hR712.cast (by kernel_rfl)) (by kernel_rfl) (by kernel_rfl) ?_
  exact ⟨rfl, hR712.toBelow⟩
  
set_option maxRecDepth 100000 in
set_option maxHeartbeats 4000000 in
theorem moves_tail {ρ : Nm} {w0 w : World} {B gl g : Nat} {a b : ByteArray} {n m : Int} (hR : Rel [] w0 ρ [⟨ptrG g, false⟩, ⟨[LS a, LS ⟨#[88]⟩], true⟩, ⟨[LS b, LS ⟨#[88]⟩], true⟩] w) (hld : LdO ρ [⟨ptrG g, false⟩, ⟨[LS a, LS ⟨#[88]⟩], true⟩, ⟨[LS b, LS ⟨#[88]⟩], true⟩] w B gl (newS g)) (hBw : w0.heap.size ≤ B) (hn : 0 ≤ n ∧ n ≤ 1099511627776) (hm : 0 ≤ m ∧ m ≤ 1099511627776) (ha : a.size ≤ 100) (hb : b.size ≤ 100) (hab : a ≠ b) (d : Nat → Value) :
    At Try.prog (bodyPost Try.prog Try.f9 (fun e w' => e = .returned (.bool true) ∧ Below w0.heap.size w0 w')) ⟨regK Try.f9 5, fillJ (tmplJ Try.f9.ntmps 0 [(0, LS a), (1, LS b), (2, LI n), (3, LI m), (9, .ptr 0 0), (10, .ptr 1 0), (11, .ptr 2 0)]) d 0, [⟨ptrG g, false⟩, ⟨[LS a, LS ⟨#[88]⟩], true⟩, ⟨[LS b, LS ⟨#[88]⟩], true⟩]⟩ ρ w := by
  have e0 := hld.at_
  have hag := Rel.ag_ hR 1 (by kernel_rfl)
  have hcn : addC (0, 0, 0) 0 n = 0 := by
    unfold addC
    rw [if_pos (by omega), if_neg (by show ¬ (0 : Int) + n < 0; omega), if_neg (by show ¬ 1152921504606846976 < (0 : Int) + n; omega)]
  have hcI : issC (newS g) a ⟨#[88]⟩ n = 0 := by
    unfold issC
    rw [show okBy n = true from by unfold okBy; rw [decide_eq_true (by omega), decide_eq_true (by omega)]; rfl, if_neg (by simp), if_neg (fun h => by omega), if_neg (by show ¬ 1152921504606846976 < (0 : Int) + n; omega)]
    exact hcn
  have hi5 : -4611686018427387904 ≤ (look (⟨#[88]⟩ : ByteArray) (newS g).li).getD 0 ∧ (look (⟨#[88]⟩ : ByteArray) (newS g).li).getD 0 ≤ 4611686018427387904 := ⟨by show (-4611686018427387904 : Int) ≤ 0; decide, by show (0 : Int) ≤ 4611686018427387904; decide⟩
  have hX : (⟨#[88]⟩ : ByteArray).size ≤ 281474976710656 := by decide
  have ha2 : a.size ≤ 281474976710656 := by omega
  refine sim_run 6 [] (hR.cast (by kernel_rfl)) (by kernel_rfl) trivial (fun ρ200 w200 hm200 hR200 => ?_)
  have hld := hld.moved (hm200.castL (by kernel_rfl))
  have hag := hag.moved (hm200.castL (by kernel_rfl))
  refine sim_call 25 [.ptr 0 0, .agg [LS a, LS (ByteArray.mk #[88])], LI n] (by kernel_rfl) ?_
  have ez0_201 := (hag.at_ 0 (by omega)).trans e0
  simp only [denL, LV.den, Nm.at_, ez0_201, Nat.add_zero]
  refine Calls.mono (issue_any _ (gl) (newS g) (a) (⟨#[88]⟩) (n) _ hld.ld (by unfold Is64 at *; omega) (ha2) (hX) (hi5)) ?_
  rintro e201 w201 ⟨rfl, s1, hl201, his, hk201, hh201⟩
  obtain ⟨hld2, hR201⟩ := hld.afterL hR200 hBw hl201 his.g hk201 hh201 (by kernel_rfl) [] (by kernel_rfl) (by simp)
  clear hld
  have hld := hld2
  clear hld2
  refine Back.of (LI 0) hR201 (by rw [hcI]; rfl) ?_
  refine sim_run 7 [] (hR201.cast (by kernel_rfl)) (by kernel_rfl) trivial (fun ρ202 w202 hm202 hR202 => ?_)
  have hag := hag.moved (hm202.castL (by kernel_rfl))
  have hld := hld.moved (hm202.castL (by kernel_rfl))
  
  have hb2 : b.size ≤ 281474976710656 := by omega
  have hg1 : ∀ k, getM s1.l k = if k = (a, ⟨#[88]⟩) then (n, 0, 0) else (0, 0, 0) := fun k => by
    rw [his.get k, if_pos hcI]
    exact moves_get1 hcn k
  have hlb1 : s1.lb = [] := his.lb
  have hneK : ((b, ⟨#[88]⟩) : Key) ≠ (a, ⟨#[88]⟩) := fun e => hab (congrArg (·.1) e).symm
  have hpA1 : partM (getM s1.l (a, ⟨#[88]⟩)) 0 = n := by rw [hg1, if_pos rfl]; rfl
  have hpB1 : partM (getM s1.l (b, ⟨#[88]⟩)) 0 = 0 := by rw [hg1, if_neg hneK]; rfl
  have hlk : lookC s1 (moveL a b ⟨#[88]⟩ m) = if n < m then 30 else 0 := by
    rw [move_look hab (by omega) (by rw [hlb1]; rfl) (by omega) (by omega) (by omega) (by omega), hpA1]
  have hzm : -4611686018427387904 ≤ m ∧ m ≤ 4611686018427387904 := by omega
  have hsa : a.size ≤ 9223372036854775807 := by omega
  have hsb : b.size ≤ 9223372036854775807 := by omega
  have hsX : (⟨#[88]⟩ : ByteArray).size ≤ 9223372036854775807 := by decide
  by_cases hlt : n < m
  · rw [if_pos hlt] at hlk
    refine sim_run 4 [] hR202 (by kernel_rfl) trivial (fun ρ300 w300 hm300 hR300 => ?_)
    have hag := hag.moved hm300
    have hld := hld.moved hm300
    refine sim_call 26 [LS a, LS b, LS (ByteArray.mk #[88]), LI m] (by kernel_rfl) ?_
    refine Calls.mono (move_any (a) (b) (⟨#[88]⟩) (m) _ (hzm) (hsa) (hsb) (hsX)) ?_
    rintro e301 w301 ⟨gp, op, rfl, hgp301, hps, hb301⟩
    have hR301 := (hR300).below hb301
    have hld := hld.below hb301
    refine Back.of (.v (.slice (some ⟨gp, op, none⟩) 2 2)) hR301 rfl ?_
    refine sim_call 29 [.ptr 0 0, .v (Value.slice (some (Addr.mk gp op none)) 2 2)] (by kernel_rfl) ?_
    have ez0_302 := (hag.at_ 0 (by omega)).trans e0
    simp only [denL, LV.den, Nm.at_, ez0_302, Nat.add_zero]
    refine Calls.mono (apply_any _ (gl) _ (s1) _ _ _ (moveL a b ⟨#[88]⟩ m) _ hld.ld (by assumption) (by omega) ((by decide)) (move_short ha2 hb2 hX)) ?_
    rintro e302 w302 ⟨rfl, m2, l2, ck2, hl302, hget, hlen, hk302, hv302⟩
    obtain ⟨hld2, hR302⟩ := hld.afterL hR301 hBw hl302 rfl (hk302.mono (fun x hx => .inl (.inr (hx.elim .inl (fun e => .inr (.inl e)))))) (fun x hx => setPos_has hv302 hx) (by rw [his.g]; kernel_rfl) [] (by kernel_rfl) (by simp)
    clear hld
    have hld := hld2
    clear hld2
    refine Back.of (LI 30) hR302 (by rw [hlk]; rfl) ?_
    refine sim_run 5 [] (hR302.cast (by kernel_rfl)) (by kernel_rfl) trivial (fun ρ303 w303 hm303 hR303 => ?_)
    have hag := hag.moved (hm303.castL (by kernel_rfl))
    have hld := hld.moved (hm303.castL (by kernel_rfl))
    
    have hL : lookL s1 (moveL a b ⟨#[88]⟩ m) = [] := by unfold lookL; rw [if_neg (by rw [hlk]; decide)]
    have hg2 : ∀ k, getM l2 k = if k = (a, ⟨#[88]⟩) then (n, 0, 0) else (0, 0, 0) := fun k => by
      rw [hget k, hL]
      exact hg1 k
    have hll : l2.length ≤ 1000000 := by
      have h1 : l2.length ≤ s1.l.length + 2 := hlen
      have h3 : s1.l.length ≤ 0 + 1 := his.len
      omega
    have htot : clampV (sumI (allOf l2 (sortKs (pickKs [⟨#[88]⟩] l2)))) = n := by
      rw [total_two (l := l2) hld.ld.pos.mp.fine hld.ld.pos.nz hab (fun k h1 h2 => by rw [hg2, if_neg h1])]
      rw [hg2, hg2, if_pos rfl, if_neg hneK]
      show clampV ((n + (0 + 0)) + (0 + (0 + 0))) = n
      rw [clamp_in (by omega)]
      omega
    have hpx : partM (getM l2 (a, ⟨#[88]⟩)) 0 = n := by rw [hg2, if_pos rfl]; rfl
    have hpy : partM (getM l2 (b, ⟨#[88]⟩)) 0 = 0 := by rw [hg2, if_neg hneK]; rfl
    refine sim_run 7 [] hR303 (by kernel_rfl) trivial (fun ρ500 w500 hm500 hR500 => ?_)
    have hag := hag.moved hm500
    have hld := hld.moved hm500
    refine sim_fork 69 (!(30 == 0) == decide (m ≤ n)) (by kernel_rfl) (fun hq501 => ?_) (fun hq501 => ?_)
    have hq501 := nb_t hq501
    have hq501 := of_decide_eq_false hq501
    refine sim_run 14 [] (hR500.cast (by kernel_rfl)) (by kernel_rfl) trivial (fun ρ502 w502 hm502 hR502 => ?_)
    have hag := hag.moved (hm502.castL (by kernel_rfl))
    have hld := hld.moved (hm502.castL (by kernel_rfl))
    refine sim_ret (LB false) hR502 (by kernel_rfl) (by kernel_rfl) ?_
    exact ⟨retv_bool (by clear hR502 hm502 hR500 hm500 hR303 hm303 hR302 hR301 hb301 hR300 hm300 hR202 hm202 hR201 hR200 hm200 hag e0 hR; grind []), hR502.toBelow⟩
    have hq501 := nb_f hq501
    have hq501 := of_decide_eq_true hq501
    refine sim_run 4 [] (hR500.cast (by kernel_rfl)) (by kernel_rfl) trivial (fun ρ503 w503 hm503 hR503 => ?_)
    have hag := hag.moved (hm503.castL (by kernel_rfl))
    have hld := hld.moved (hm503.castL (by kernel_rfl))
    refine sim_call 21 [.v (Value.pointer (some (Addr.mk g 0 none))), LS (ByteArray.mk #[88])] (by kernel_rfl) ?_
    refine Calls.mono (total_po _ _ (m2) (l2) (ck2) _ _ (pos_g hld.ld his.g) (by assumption)) ?_
    rw [htot]
    rintro e504 w504 ⟨rfl, hb504⟩
    have hR504 := (hR503).below hb504
    have hld := hld.below hb504
    refine Back.of (LI n) hR504 rfl ?_
    refine sim_run 4 [] (hR504.cast (by kernel_rfl)) (by kernel_rfl) trivial (fun ρ505 w505 hm505 hR505 => ?_)
    have hag := hag.moved (hm505.castL (by kernel_rfl))
    have hld := hld.moved (hm505.castL (by kernel_rfl))
    refine sim_know 77 (n != n) false (by kernel_rfl) (bne_self_eq_false _) ?_
    refine sim_run 10 [] (hR505.cast (by kernel_rfl)) (by kernel_rfl) trivial (fun ρ506 w506 hm506 hR506 => ?_)
    have hag := hag.moved (hm506.castL (by kernel_rfl))
    have hld := hld.moved (hm506.castL (by kernel_rfl))
    refine sim_draw [] (by kernel_rfl) (by kernel_rfl) hR506 (fun hR507 => ?_)
    have hld := hld.drew
    refine sim_ord_call (T := []) (w0 := w0) 23 [] (by kernel_rfl) ?_
    refine Calls.mono (alive11_any _) ?_
    rintro e508 w508 ⟨rfl, hb508⟩
    have hR508 := (hR507).call hb508 (LB true)
    have hld := hld.below hb508
    refine BackO.of (LB true) hR508 rfl ?_
    refine sim_ordN 11 [] hR508 (by kernel_rfl) trivial (fun ρ509 w509 hm509 hR509 => ?_)
    have hag := hag.moved (hm509.castL (by kernel_rfl))
    have hld := hld.moved (hm509.castL (by kernel_rfl))
    refine sim_ord_call (T := []) (w0 := w0) 19 [.v (Value.pointer (some (Addr.mk g 0 none))), .agg [LS a, LS (ByteArray.mk #[88])], LI 0] (by kernel_rfl) ?_
    refine Calls.mono (part_po _ _ (m2) (l2) (ck2) _ _ _ _ (pos_g hld.ld his.g)) ?_
    (first | rw [hpx] | rw [hpy])
    rintro e510 w510 ⟨rfl, hb510⟩
    have hR510 := (hR509).call hb510 (LI n)
    have hld := hld.below hb510
    refine BackO.of (LI n) hR510 rfl ?_
    refine sim_ordN 3 [] hR510 (by kernel_rfl) trivial (fun ρ511 w511 hm511 hR511 => ?_)
    have hag := hag.moved (hm511.castL (by kernel_rfl))
    have hld := hld.moved (hm511.castL (by kernel_rfl))
    refine sim_knowO hR511 95 (n == n) true (by kernel_rfl) (decide_eq_true (by omega)) (fun hR512 => ?_)
    refine sim_ordN 5 [] hR512 (by kernel_rfl) trivial (fun ρ513 w513 hm513 hR513 => ?_)
    have hag := hag.moved (hm513.castL (by kernel_rfl))
    have hld := hld.moved (hm513.castL (by kernel_rfl))
    refine sim_ord_call (T := []) (w0 := w0) 19 [.v (Value.pointer (some (Addr.mk g 0 none))), .agg [LS b, LS (ByteArray.mk #[88])], LI 0] (by kernel_rfl) ?_
    refine Calls.mono (part_po _ _ (m2) (l2) (ck2) _ _ _ _ (pos_g hld.ld his.g)) ?_
    (first | rw [hpx] | rw [hpy])
    rintro e514 w514 ⟨rfl, hb514⟩
    have hR514 := (hR513).call hb514 (LI 0)
    have hld := hld.below hb514
    refine BackO.of (LI 0) hR514 rfl ?_
    refine sim_ordN 3 [] hR514 (by kernel_rfl) trivial (fun ρ515 w515 hm515 hR515 => ?_)
    have hag := hag.moved (hm515.castL (by kernel_rfl))
    have hld := hld.moved (hm515.castL (by kernel_rfl))
    refine sim_ord_endR hR515 (by kernel_rfl) (fun hR516 => ?_)
    refine sim_ret (LB true) (hR516.cast (by kernel_rfl)) (by kernel_rfl) (by kernel_rfl) ?_
    exact ⟨rfl, hR516.toBelow⟩
    
  · rw [if_neg hlt] at hlk
    refine sim_run 4 [] hR202 (by kernel_rfl) trivial (fun ρ400 w400 hm400 hR400 => ?_)
    have hag := hag.moved hm400
    have hld := hld.moved hm400
    refine sim_call 26 [LS a, LS b, LS (ByteArray.mk #[88]), LI m] (by kernel_rfl) ?_
    refine Calls.mono (move_any (a) (b) (⟨#[88]⟩) (m) _ (hzm) (hsa) (hsb) (hsX)) ?_
    rintro e401 w401 ⟨gp, op, rfl, hgp401, hps, hb401⟩
    have hR401 := (hR400).below hb401
    have hld := hld.below hb401
    refine Back.of (.v (.slice (some ⟨gp, op, none⟩) 2 2)) hR401 rfl ?_
    refine sim_call 29 [.ptr 0 0, .v (Value.slice (some (Addr.mk gp op none)) 2 2)] (by kernel_rfl) ?_
    have ez0_402 := (hag.at_ 0 (by omega)).trans e0
    simp only [denL, LV.den, Nm.at_, ez0_402, Nat.add_zero]
    refine Calls.mono (apply_any _ (gl) _ (s1) _ _ _ (moveL a b ⟨#[88]⟩ m) _ hld.ld (by assumption) (by omega) ((by decide)) (move_short ha2 hb2 hX)) ?_
    rintro e402 w402 ⟨rfl, m2, l2, ck2, hl402, hget, hlen, hk402, hv402⟩
    obtain ⟨hld2, hR402⟩ := hld.afterL hR401 hBw hl402 rfl (hk402.mono (fun x hx => .inl (.inr (hx.elim .inl (fun e => .inr (.inl e)))))) (fun x hx => setPos_has hv402 hx) (by rw [his.g]; kernel_rfl) [] (by kernel_rfl) (by simp)
    clear hld
    have hld := hld2
    clear hld2
    refine Back.of (LI 0) hR402 (by rw [hlk]; rfl) ?_
    refine sim_run 5 [] (hR402.cast (by kernel_rfl)) (by kernel_rfl) trivial (fun ρ403 w403 hm403 hR403 => ?_)
    have hag := hag.moved (hm403.castL (by kernel_rfl))
    have hld := hld.moved (hm403.castL (by kernel_rfl))
    
    have hg1' : ∀ k, getM s1.l k = mvB a b ⟨#[88]⟩ n 0 k := fun k => by
      rw [hg1]
      unfold mvB
      split
      · rfl
      · split <;> rfl
    obtain ⟨_, hap⟩ := mvB_move (s := s1) (z := m) hab hg1' hlb1 (by omega) (by omega) (by omega) (by omega)
    have hg2 : ∀ k, getM l2 k = mvB a b ⟨#[88]⟩ (n - m) m k := fun k => by
      rw [hget k, hap, Int.zero_add]
    have hll : l2.length ≤ 1000000 := by
      have h1 : l2.length ≤ s1.l.length + 2 := hlen
      have h3 : s1.l.length ≤ 0 + 1 := his.len
      omega
    have htot : clampV (sumI (allOf l2 (sortKs (pickKs [⟨#[88]⟩] l2)))) = n := by
      rw [total_two (l := l2) hld.ld.pos.mp.fine hld.ld.pos.nz hab (fun k h1 h2 => by rw [hg2]; unfold mvB; rw [if_neg h1, if_neg h2])]
      rw [hg2, hg2]
      unfold mvB
      rw [if_pos rfl, if_neg hneK, if_pos rfl]
      show clampV ((n - m + (0 + 0)) + (m + (0 + 0))) = n
      rw [clamp_in (by omega)]
      omega
    have hpx : partM (getM l2 (a, ⟨#[88]⟩)) 0 = n - m := by rw [hg2]; unfold mvB; rw [if_pos rfl]; rfl
    have hpy : partM (getM l2 (b, ⟨#[88]⟩)) 0 = m := by rw [hg2]; unfold mvB; rw [if_neg hneK, if_pos rfl]; rfl
    refine sim_run 7 [] hR403 (by kernel_rfl) trivial (fun ρ600 w600 hm600 hR600 => ?_)
    have hag := hag.moved hm600
    have hld := hld.moved hm600
    refine sim_fork 69 (!(0 == 0) == decide (m ≤ n)) (by kernel_rfl) (fun hq601 => ?_) (fun hq601 => ?_)
    have hq601 := nb_t hq601
    have hq601 := of_decide_eq_false hq601
    refine sim_run 14 [] (hR600.cast (by kernel_rfl)) (by kernel_rfl) trivial (fun ρ602 w602 hm602 hR602 => ?_)
    have hag := hag.moved (hm602.castL (by kernel_rfl))
    have hld := hld.moved (hm602.castL (by kernel_rfl))
    refine sim_ret (LB false) hR602 (by kernel_rfl) (by kernel_rfl) ?_
    exact ⟨retv_bool (by clear hR602 hm602 hR600 hm600 hR403 hm403 hR402 hR401 hb401 hR400 hm400 hR202 hm202 hR201 hR200 hm200 hag e0 hR; grind []), hR602.toBelow⟩
    have hq601 := nb_f hq601
    have hq601 := of_decide_eq_true hq601
    refine sim_run 4 [] (hR600.cast (by kernel_rfl)) (by kernel_rfl) trivial (fun ρ603 w603 hm603 hR603 => ?_)
    have hag := hag.moved (hm603.castL (by kernel_rfl))
    have hld := hld.moved (hm603.castL (by kernel_rfl))
    refine sim_call 21 [.v (Value.pointer (some (Addr.mk g 0 none))), LS (ByteArray.mk #[88])] (by kernel_rfl) ?_
    refine Calls.mono (total_po _ _ (m2) (l2) (ck2) _ _ (pos_g hld.ld his.g) (by assumption)) ?_
    rw [htot]
    rintro e604 w604 ⟨rfl, hb604⟩
    have hR604 := (hR603).below hb604
    have hld := hld.below hb604
    refine Back.of (LI n) hR604 rfl ?_
    refine sim_run 4 [] (hR604.cast (by kernel_rfl)) (by kernel_rfl) trivial (fun ρ605 w605 hm605 hR605 => ?_)
    have hag := hag.moved (hm605.castL (by kernel_rfl))
    have hld := hld.moved (hm605.castL (by kernel_rfl))
    refine sim_know 77 (n != n) false (by kernel_rfl) (bne_self_eq_false _) ?_
    refine sim_run 12 [] (hR605.cast (by kernel_rfl)) (by kernel_rfl) trivial (fun ρ606 w606 hm606 hR606 => ?_)
    have hag := hag.moved (hm606.castL (by kernel_rfl))
    have hld := hld.moved (hm606.castL (by kernel_rfl))
    refine sim_draw [] (by kernel_rfl) (by kernel_rfl) hR606 (fun hR607 => ?_)
    have hld := hld.drew
    refine sim_ordN 8 [⟨12, 8, LI (IntKind.i64.wrap (n - m)), LI (n - m)⟩] hR607 (by kernel_rfl) ⟨eqi (IntWalk.i64_in _ (by omega)), trivial⟩ (fun ρ608 w608 hm608 hR608 => ?_)
    have hag := hag.moved (hm608.castL (by kernel_rfl))
    have hld := hld.moved (hm608.castL (by kernel_rfl))
    refine sim_ord_call (T := []) (w0 := w0) 19 [.v (Value.pointer (some (Addr.mk g 0 none))), .agg [LS a, LS (ByteArray.mk #[88])], LI 0] (by kernel_rfl) ?_
    refine Calls.mono (part_po _ _ (m2) (l2) (ck2) _ _ _ _ (pos_g hld.ld his.g)) ?_
    (first | rw [hpx] | rw [hpy])
    rintro e609 w609 ⟨rfl, hb609⟩
    have hR609 := (hR608).call hb609 (LI (n - m))
    have hld := hld.below hb609
    refine BackO.of (LI (n - m)) hR609 rfl ?_
    refine sim_ordN 2 [] hR609 (by kernel_rfl) trivial (fun ρ610 w610 hm610 hR610 => ?_)
    have hag := hag.moved (hm610.castL (by kernel_rfl))
    have hld := hld.moved (hm610.castL (by kernel_rfl))
    refine sim_knowO hR610 114 (n - m != n - m) false (by kernel_rfl) (bne_self_eq_false _) (fun hR611 => ?_)
    refine sim_ordN 6 [] hR611 (by kernel_rfl) trivial (fun ρ612 w612 hm612 hR612 => ?_)
    have hag := hag.moved (hm612.castL (by kernel_rfl))
    have hld := hld.moved (hm612.castL (by kernel_rfl))
    refine sim_ord_call (T := []) (w0 := w0) 19 [.v (Value.pointer (some (Addr.mk g 0 none))), .agg [LS b, LS (ByteArray.mk #[88])], LI 0] (by kernel_rfl) ?_
    refine Calls.mono (part_po _ _ (m2) (l2) (ck2) _ _ _ _ (pos_g hld.ld his.g)) ?_
    (first | rw [hpx] | rw [hpy])
    rintro e613 w613 ⟨rfl, hb613⟩
    have hR613 := (hR612).call hb613 (LI m)
    have hld := hld.below hb613
    refine BackO.of (LI m) hR613 rfl ?_
    refine sim_ordN 2 [] hR613 (by kernel_rfl) trivial (fun ρ614 w614 hm614 hR614 => ?_)
    have hag := hag.moved (hm614.castL (by kernel_rfl))
    have hld := hld.moved (hm614.castL (by kernel_rfl))
    refine sim_ord_endR hR614 (by kernel_rfl) (fun hR615 => ?_)
    refine sim_know 123 (m != m) false (by kernel_rfl) (bne_self_eq_false _) ?_
    refine sim_run 3 [] (hR615.cast (by kernel_rfl)) (by kernel_rfl) trivial (fun ρ616 w616 hm616 hR616 => ?_)
    have hag := hag.moved (hm616.castL (by kernel_rfl))
    have hld := hld.moved (hm616.castL (by kernel_rfl))
    
    refine sim_to (regK Try.f9 14) (tmplJ Try.f9.ntmps 0 [(0, LS a), (1, LS b), (2, LI n), (3, LI m), (9, .ptr 0 0), (10, .ptr 1 0), (11, .ptr 2 0)]) [⟨ptrG g, false⟩, ⟨[LS a, LS ⟨#[88]⟩], true⟩, ⟨[LS b, LS ⟨#[88]⟩], true⟩] (by kernel_rfl) (by kernel_rfl) (by kernel_rfl) (fun d => ?_)
    exact moves_last (s := s1.setPos m2 l2 ck2) ((by assumption : Rel _ _ _ _ _).cast (by kernel_rfl)) (hld.castR (by kernel_rfl)) hBw hn (by omega) ha hb hab his.g hlb1 hg2 d
end Go.Proofs.Ytgbgedaedcofcaa
