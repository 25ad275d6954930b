/-
  post: the methods of a nil ledger, and of a zero one.
-/
import Derived.Test.YtgbgedaedcofcaaOpL
namespace Go.Proofs.Ytgbgedaedcofcaa
open Go Go.RowKit
attribute [local irreducible] run goO leaveK someK nextK nextT nextOT nextOD loopBody loopRest loopK fillJ tmplOf tmplJ mergeT At AtO drawOk ordOf gateOf callC callO topOp topO idxOf appOf storeOf clearOf sliceOf calleeOf calleeO topQ idxQ newRowOf resL stepOp seek
def zeroL : List LV := [.v (.pointer none), .v (.map none), .v (.map none)]
theorem ldz_open {w : World} {gl : Nat} (h : Blk w gl 56 #[.pointer none, .map none, .map none]) : ∃ ρ : Nm, ρ 0 = (gl, 0) ∧ Rel [] w ρ [⟨zeroL, false⟩] w := by
  obtain ⟨ρ, _, e0, hR⟩ := (Rel.start [] w ρ0).open_ rfl gl 0 zeroL rfl false h.lt (fun j v hv => by
    rw [Nat.zero_add, h.cell j]
    match j, hv with
    | 0, hv => simp only [zeroL, List.getElem?_cons_zero, Option.some.injEq] at hv; subst hv; rfl
    | 1, hv => simp only [zeroL, List.getElem?_cons_succ, List.getElem?_cons_zero, Option.some.injEq] at hv; subst hv; rfl
    | 2, hv => simp only [zeroL, List.getElem?_cons_succ, List.getElem?_cons_zero, Option.some.injEq] at hv; subst hv; rfl
    | j + 3, hv => simp [zeroL] at hv) (fun hb => by cases hb) (fun n r hn => by simp at hn)
  exact ⟨ρ, e0, hR⟩
theorem nl_none (w : World) : Calls Try.prog 42 #[.pointer none] w fun e w' => e = .returned (.bool true) ∧ Below w.heap.size w w' := by
  refine sim_enter Try.func42 ρ0 [.v (.pointer none)] [] (by kernel_rfl) rfl ?_
  have hR := Rel.start [] w ρ0
  refine sim_run 17 [] (hR.cast (by kernel_rfl)) (by kernel_rfl) trivial (fun ρ100 w100 hm100 hR100 => ?_)
  refine sim_ret (LB true) hR100 (by kernel_rfl) (by kernel_rfl) ?_
  exact ⟨rfl, hR100.toBelow⟩
  
theorem nl_block (k1 k2 : ByteArray) (on : Bool) (w : World) : Calls Try.prog 31 #[.pointer none, .agg #[.string k1, .string k2], .bool on] w fun e w' => e = .returned (.tuple #[]) ∧ Below w.heap.size w w' := by
  refine sim_enter Try.func31 ρ0 [.v (.pointer none), .agg [LS k1, LS k2], LB on] [] (by kernel_rfl) rfl ?_
  have hR := Rel.start [] w ρ0
  refine sim_run 8 [] (hR.cast (by kernel_rfl)) (by kernel_rfl) trivial (fun ρ200 w200 hm200 hR200 => ?_)
  refine sim_call 42 [.v (Value.pointer none)] (by kernel_rfl) ?_
  refine Calls.mono (nl_none _) ?_
  rintro e201 w201 ⟨rfl, hb201⟩
  have hR201 := hR200.below hb201
  refine Back.of (LB true) hR201 rfl ?_
  refine sim_run 2 [] (hR201.cast (by kernel_rfl)) (by kernel_rfl) trivial (fun ρ202 w202 hm202 hR202 => ?_)
  refine sim_ret (.tup []) hR202 (by kernel_rfl) (by kernel_rfl) ?_
  exact ⟨rfl, hR202.toBelow⟩
  
theorem nl_look (A : Option Addr) (n cp : Nat) (w : World) : Calls Try.prog 45 #[.pointer none, .slice A n cp] w fun e w' => e = .returned (.tuple #[.slice none 0 0, .int .i64 1]) ∧ Below w.heap.size w w' := by
  refine sim_enter Try.func45 ρ0 [.v (.pointer none), .v (.slice A n cp)] [] (by kernel_rfl) rfl ?_
  have hR := Rel.start [] w ρ0
  refine sim_run 10 [] (hR.cast (by kernel_rfl)) (by kernel_rfl) trivial (fun ρ300 w300 hm300 hR300 => ?_)
  refine sim_call 42 [.v (Value.pointer none)] (by kernel_rfl) ?_
  refine Calls.mono (nl_none _) ?_
  rintro e301 w301 ⟨rfl, hb301⟩
  have hR301 := hR300.below hb301
  refine Back.of (LB true) hR301 rfl ?_
  refine sim_run 8 [] (hR301.cast (by kernel_rfl)) (by kernel_rfl) trivial (fun ρ302 w302 hm302 hR302 => ?_)
  refine sim_ret (.tup [.v (Value.slice none 0 0), LI 1]) hR302 (by kernel_rfl) (by kernel_rfl) ?_
  exact ⟨rfl, hR302.toBelow⟩
  
theorem nl_try (A : Option Addr) (n cp : Nat) (w : World) : Calls Try.prog 27 #[.pointer none, .slice A n cp] w fun e w' => e = .returned (.int .i64 1) ∧ Below w.heap.size w w' := by
  refine sim_enter Try.func27 ρ0 [.v (.pointer none), .v (.slice A n cp)] [] (by kernel_rfl) rfl ?_
  have hR := Rel.start [] w ρ0
  refine sim_run 8 [] (hR.cast (by kernel_rfl)) (by kernel_rfl) trivial (fun ρ400 w400 hm400 hR400 => ?_)
  refine sim_call 45 [.v (Value.pointer none), .v (Value.slice A n cp)] (by kernel_rfl) ?_
  refine Calls.mono (nl_look _ _ _ _) ?_
  rintro e401 w401 ⟨rfl, hb401⟩
  have hR401 := hR400.below hb401
  refine Back.of (.tup [.v (Value.slice none 0 0), LI 1]) hR401 rfl ?_
  refine sim_run 11 [] (hR401.cast (by kernel_rfl)) (by kernel_rfl) trivial (fun ρ402 w402 hm402 hR402 => ?_)
  refine sim_ret (LI 1) hR402 (by kernel_rfl) (by kernel_rfl) ?_
  exact ⟨rfl, hR402.toBelow⟩
  
theorem nl_apply (A : Option Addr) (n cp : Nat) (w : World) : Calls Try.prog 29 #[.pointer none, .slice A n cp] w fun e w' => e = .returned (.int .i64 1) ∧ Below w.heap.size w w' := by
  refine sim_enter Try.func29 ρ0 [.v (.pointer none), .v (.slice A n cp)] [] (by kernel_rfl) rfl ?_
  have hR := Rel.start [] w ρ0
  refine sim_run 8 [] (hR.cast (by kernel_rfl)) (by kernel_rfl) trivial (fun ρ500 w500 hm500 hR500 => ?_)
  refine sim_call 45 [.v (Value.pointer none), .v (Value.slice A n cp)] (by kernel_rfl) ?_
  refine Calls.mono (nl_look _ _ _ _) ?_
  rintro e501 w501 ⟨rfl, hb501⟩
  have hR501 := hR500.below hb501
  refine Back.of (.tup [.v (Value.slice none 0 0), LI 1]) hR501 rfl ?_
  refine sim_run 14 [] (hR501.cast (by kernel_rfl)) (by kernel_rfl) trivial (fun ρ502 w502 hm502 hR502 => ?_)
  refine sim_unroll 2 (by kernel_rfl) ?_
  refine sim_run 13 [] (hR502.cast (by kernel_rfl)) (by kernel_rfl) trivial (fun ρ503 w503 hm503 hR503 => ?_)
  refine sim_ret (LI 1) hR503 (by kernel_rfl) (by kernel_rfl) ?_
  exact ⟨rfl, hR503.toBelow⟩
  
theorem nl_issue (k1 k2 : ByteArray) (z : Int) (w : World) : Calls Try.prog 25 #[.pointer none, .agg #[.string k1, .string k2], .int .i64 z] w fun e w' => e = .returned (.int .i64 1) ∧ Below w.heap.size w w' := by
  refine sim_enter Try.func25 ρ0 [.v (.pointer none), .agg [LS k1, LS k2], LI z] [] (by kernel_rfl) rfl ?_
  have hR := Rel.start [] w ρ0
  refine sim_run 10 [] (hR.cast (by kernel_rfl)) (by kernel_rfl) trivial (fun ρ600 w600 hm600 hR600 => ?_)
  refine sim_call 42 [.v (Value.pointer none)] (by kernel_rfl) ?_
  refine Calls.mono (nl_none _) ?_
  rintro e601 w601 ⟨rfl, hb601⟩
  have hR601 := hR600.below hb601
  refine Back.of (LB true) hR601 rfl ?_
  refine sim_run 11 [] (hR601.cast (by kernel_rfl)) (by kernel_rfl) trivial (fun ρ602 w602 hm602 hR602 => ?_)
  refine sim_ret (LI 1) hR602 (by kernel_rfl) (by kernel_rfl) ?_
  exact ⟨rfl, hR602.toBelow⟩
  
theorem nl_issued (k : ByteArray) (w : World) : Calls Try.prog 32 #[.pointer none, .string k] w fun e w' => e = .returned (.int .i64 0) ∧ Below w.heap.size w w' := by
  refine sim_enter Try.func32 ρ0 [.v (.pointer none), LS k] [] (by kernel_rfl) rfl ?_
  have hR := Rel.start [] w ρ0
  refine sim_run 8 [] (hR.cast (by kernel_rfl)) (by kernel_rfl) trivial (fun ρ700 w700 hm700 hR700 => ?_)
  refine sim_call 42 [.v (Value.pointer none)] (by kernel_rfl) ?_
  refine Calls.mono (nl_none _) ?_
  rintro e701 w701 ⟨rfl, hb701⟩
  have hR701 := hR700.below hb701
  refine Back.of (LB true) hR701 rfl ?_
  refine sim_run 6 [] (hR701.cast (by kernel_rfl)) (by kernel_rfl) trivial (fun ρ702 w702 hm702 hR702 => ?_)
  refine sim_ret (LI 0) hR702 (by kernel_rfl) (by kernel_rfl) ?_
  exact ⟨rfl, hR702.toBelow⟩
  
theorem nl_blocks (w : World) : Calls Try.prog 35 #[.pointer none] w fun e w' => e = .returned (.slice none 0 0) ∧ Below w.heap.size w w' := by
  refine sim_enter Try.func35 ρ0 [.v (.pointer none)] [] (by kernel_rfl) rfl ?_
  have hR := Rel.start [] w ρ0
  refine sim_run 8 [] (hR.cast (by kernel_rfl)) (by kernel_rfl) trivial (fun ρ800 w800 hm800 hR800 => ?_)
  refine sim_call 42 [.v (Value.pointer none)] (by kernel_rfl) ?_
  refine Calls.mono (nl_none _) ?_
  rintro e801 w801 ⟨rfl, hb801⟩
  have hR801 := hR800.below hb801
  refine Back.of (LB true) hR801 rfl ?_
  refine sim_run 6 [] (hR801.cast (by kernel_rfl)) (by kernel_rfl) trivial (fun ρ802 w802 hm802 hR802 => ?_)
  refine sim_ret (.v (Value.slice none 0 0)) hR802 (by kernel_rfl) (by kernel_rfl) ?_
  exact ⟨rfl, hR802.toBelow⟩
  
theorem nl_blocked (k1 k2 : ByteArray) (w : World) : Calls Try.prog 34 #[.pointer none, .agg #[.string k1, .string k2]] w fun e w' => e = .returned (.bool false) ∧ Below w.heap.size w w' := by
  refine sim_enter Try.func34 ρ0 [.v (.pointer none), .agg [LS k1, LS k2]] [] (by kernel_rfl) rfl ?_
  have hR := Rel.start [] w ρ0
  refine sim_run 9 [] (hR.cast (by kernel_rfl)) (by kernel_rfl) trivial (fun ρ900 w900 hm900 hR900 => ?_)
  refine sim_call 42 [.v (Value.pointer none)] (by kernel_rfl) ?_
  refine Calls.mono (nl_none _) ?_
  rintro e901 w901 ⟨rfl, hb901⟩
  have hR901 := hR900.below hb901
  refine Back.of (LB true) hR901 rfl ?_
  refine sim_run 6 [] (hR901.cast (by kernel_rfl)) (by kernel_rfl) trivial (fun ρ902 w902 hm902 hR902 => ?_)
  refine sim_ret (LB false) hR902 (by kernel_rfl) (by kernel_rfl) ?_
  exact ⟨rfl, hR902.toBelow⟩
  
theorem zl_none (gl : Nat) (w : World) (h : Blk w gl 56 #[.pointer none, .map none, .map none]) : Calls Try.prog 42 #[.pointer (some ⟨gl, 0, none⟩)] w fun e w' => e = .returned (.bool true) ∧ Below w.heap.size w w' := by
  obtain ⟨ρ, e0, hR⟩ := ldz_open h
  have hag := Rel.ag_ hR 1 (by kernel_rfl)
  refine sim_enter Try.func42 ρ [.ptr 0 0] [⟨zeroL, false⟩] (by kernel_rfl) (by simp only [denL, LV.den, Nm.at_, e0]) ?_
  refine sim_run 17 [] (hR.cast (by kernel_rfl)) (by kernel_rfl) trivial (fun ρ1000 w1000 hm1000 hR1000 => ?_)
  have hag := hag.moved (hm1000.castL (by kernel_rfl))
  refine sim_ret (LB true) hR1000 (by kernel_rfl) (by kernel_rfl) ?_
  exact ⟨rfl, hR1000.toBelow⟩
  
theorem zl_block (gl : Nat) (k1 k2 : ByteArray) (on : Bool) (w : World) (h : Blk w gl 56 #[.pointer none, .map none, .map none]) : Calls Try.prog 31 #[.pointer (some ⟨gl, 0, none⟩), .agg #[.string k1, .string k2], .bool on] w fun e w' => e = .returned (.tuple #[]) ∧ Below w.heap.size w w' := by
  obtain ⟨ρ, e0, hR⟩ := ldz_open h
  have hag := Rel.ag_ hR 1 (by kernel_rfl)
  refine sim_enter Try.func31 ρ [.ptr 0 0, .agg [LS k1, LS k2], LB on] [⟨zeroL, false⟩] (by kernel_rfl) (by simp only [denL, LV.den, Nm.at_, e0]) ?_
  refine sim_run 8 [] (hR.cast (by kernel_rfl)) (by kernel_rfl) trivial (fun ρ1100 w1100 hm1100 hR1100 => ?_)
  have hag := hag.moved (hm1100.castL (by kernel_rfl))
  refine sim_call 42 [.ptr 0 0] (by kernel_rfl) ?_
  have ez0_1101 := (hag.at_ 0 (by omega)).trans e0
  simp only [denL, LV.den, Nm.at_, ez0_1101, Nat.add_zero]
  refine Calls.mono (zl_none _ _ (h.below (hR1100).toBelow h.lt)) ?_
  rintro e1101 w1101 ⟨rfl, hb1101⟩
  have hR1101 := hR1100.below hb1101
  refine Back.of (LB true) hR1101 rfl ?_
  refine sim_run 2 [] (hR1101.cast (by kernel_rfl)) (by kernel_rfl) trivial (fun ρ1102 w1102 hm1102 hR1102 => ?_)
  have hag := hag.moved (hm1102.castL (by kernel_rfl))
  refine sim_ret (.tup []) hR1102 (by kernel_rfl) (by kernel_rfl) ?_
  exact ⟨rfl, hR1102.toBelow⟩
  
theorem zl_look (gl : Nat) (A : Option Addr) (n cp : Nat) (w : World) (h : Blk w gl 56 #[.pointer none, .map none, .map none]) : Calls Try.prog 45 #[.pointer (some ⟨gl, 0, none⟩), .slice A n cp] w fun e w' => e = .returned (.tuple #[.slice none 0 0, .int .i64 1]) ∧ Below w.heap.size w w' := by
  obtain ⟨ρ, e0, hR⟩ := ldz_open h
  have hag := Rel.ag_ hR 1 (by kernel_rfl)
  refine sim_enter Try.func45 ρ [.ptr 0 0, .v (.slice A n cp)] [⟨zeroL, false⟩] (by kernel_rfl) (by simp only [denL, LV.den, Nm.at_, e0]) ?_
  refine sim_run 10 [] (hR.cast (by kernel_rfl)) (by kernel_rfl) trivial (fun ρ1200 w1200 hm1200 hR1200 => ?_)
  have hag := hag.moved (hm1200.castL (by kernel_rfl))
  refine sim_call 42 [.ptr 0 0] (by kernel_rfl) ?_
  have ez0_1201 := (hag.at_ 0 (by omega)).trans e0
  simp only [denL, LV.den, Nm.at_, ez0_1201, Nat.add_zero]
  refine Calls.mono (zl_none _ _ (h.below (hR1200).toBelow h.lt)) ?_
  rintro e1201 w1201 ⟨rfl, hb1201⟩
  have hR1201 := hR1200.below hb1201
  refine Back.of (LB true) hR1201 rfl ?_
  refine sim_run 8 [] (hR1201.cast (by kernel_rfl)) (by kernel_rfl) trivial (fun ρ1202 w1202 hm1202 hR1202 => ?_)
  have hag := hag.moved (hm1202.castL (by kernel_rfl))
  refine sim_ret (.tup [.v (Value.slice none 0 0), LI 1]) hR1202 (by kernel_rfl) (by kernel_rfl) ?_
  exact ⟨rfl, hR1202.toBelow⟩
  
theorem zl_try (gl : Nat) (A : Option Addr) (n cp : Nat) (w : World) (h : Blk w gl 56 #[.pointer none, .map none, .map none]) : Calls Try.prog 27 #[.pointer (some ⟨gl, 0, none⟩), .slice A n cp] w fun e w' => e = .returned (.int .i64 1) ∧ Below w.heap.size w w' := by
  obtain ⟨ρ, e0, hR⟩ := ldz_open h
  have hag := Rel.ag_ hR 1 (by kernel_rfl)
  refine sim_enter Try.func27 ρ [.ptr 0 0, .v (.slice A n cp)] [⟨zeroL, false⟩] (by kernel_rfl) (by simp only [denL, LV.den, Nm.at_, e0]) ?_
  refine sim_run 8 [] (hR.cast (by kernel_rfl)) (by kernel_rfl) trivial (fun ρ1300 w1300 hm1300 hR1300 => ?_)
  have hag := hag.moved (hm1300.castL (by kernel_rfl))
  refine sim_call 45 [.ptr 0 0, .v (Value.slice A n cp)] (by kernel_rfl) ?_
  have ez0_1301 := (hag.at_ 0 (by omega)).trans e0
  simp only [denL, LV.den, Nm.at_, ez0_1301, Nat.add_zero]
  refine Calls.mono (zl_look _ _ _ _ _ (h.below (hR1300).toBelow h.lt)) ?_
  rintro e1301 w1301 ⟨rfl, hb1301⟩
  have hR1301 := hR1300.below hb1301
  refine Back.of (.tup [.v (Value.slice none 0 0), LI 1]) hR1301 rfl ?_
  refine sim_run 11 [] (hR1301.cast (by kernel_rfl)) (by kernel_rfl) trivial (fun ρ1302 w1302 hm1302 hR1302 => ?_)
  have hag := hag.moved (hm1302.castL (by kernel_rfl))
  refine sim_ret (LI 1) hR1302 (by kernel_rfl) (by kernel_rfl) ?_
  exact ⟨rfl, hR1302.toBelow⟩
  
theorem zl_apply (gl : Nat) (A : Option Addr) (n cp : Nat) (w : World) (h : Blk w gl 56 #[.pointer none, .map none, .map none]) : Calls Try.prog 29 #[.pointer (some ⟨gl, 0, none⟩), .slice A n cp] w fun e w' => e = .returned (.int .i64 1) ∧ Below w.heap.size w w' := by
  obtain ⟨ρ, e0, hR⟩ := ldz_open h
  have hag := Rel.ag_ hR 1 (by kernel_rfl)
  refine sim_enter Try.func29 ρ [.ptr 0 0, .v (.slice A n cp)] [⟨zeroL, false⟩] (by kernel_rfl) (by simp only [denL, LV.den, Nm.at_, e0]) ?_
  refine sim_run 8 [] (hR.cast (by kernel_rfl)) (by kernel_rfl) trivial (fun ρ1400 w1400 hm1400 hR1400 => ?_)
  have hag := hag.moved (hm1400.castL (by kernel_rfl))
  refine sim_call 45 [.ptr 0 0, .v (Value.slice A n cp)] (by kernel_rfl) ?_
  have ez0_1401 := (hag.at_ 0 (by omega)).trans e0
  simp only [denL, LV.den, Nm.at_, ez0_1401, Nat.add_zero]
  refine Calls.mono (zl_look _ _ _ _ _ (h.below (hR1400).toBelow h.lt)) ?_
  rintro e1401 w1401 ⟨rfl, hb1401⟩
  have hR1401 := hR1400.below hb1401
  refine Back.of (.tup [.v (Value.slice none 0 0), LI 1]) hR1401 rfl ?_
  refine sim_run 14 [] (hR1401.cast (by kernel_rfl)) (by kernel_rfl) trivial (fun ρ1402 w1402 hm1402 hR1402 => ?_)
  have hag := hag.moved (hm1402.castL (by kernel_rfl))
  refine sim_unroll 2 (by kernel_rfl) ?_
  refine sim_run 13 [] (hR1402.cast (by kernel_rfl)) (by kernel_rfl) trivial (fun ρ1403 w1403 hm1403 hR1403 => ?_)
  have hag := hag.moved (hm1403.castL (by kernel_rfl))
  refine sim_ret (LI 1) hR1403 (by kernel_rfl) (by kernel_rfl) ?_
  exact ⟨rfl, hR1403.toBelow⟩
  
theorem zl_issue (gl : Nat) (k1 k2 : ByteArray) (z : Int) (w : World) (h : Blk w gl 56 #[.pointer none, .map none, .map none]) : Calls Try.prog 25 #[.pointer (some ⟨gl, 0, none⟩), .agg #[.string k1, .string k2], .int .i64 z] w fun e w' => e = .returned (.int .i64 1) ∧ Below w.heap.size w w' := by
  obtain ⟨ρ, e0, hR⟩ := ldz_open h
  have hag := Rel.ag_ hR 1 (by kernel_rfl)
  refine sim_enter Try.func25 ρ [.ptr 0 0, .agg [LS k1, LS k2], LI z] [⟨zeroL, false⟩] (by kernel_rfl) (by simp only [denL, LV.den, Nm.at_, e0]) ?_
  refine sim_run 10 [] (hR.cast (by kernel_rfl)) (by kernel_rfl) trivial (fun ρ1500 w1500 hm1500 hR1500 => ?_)
  have hag := hag.moved (hm1500.castL (by kernel_rfl))
  refine sim_call 42 [.ptr 0 0] (by kernel_rfl) ?_
  have ez0_1501 := (hag.at_ 0 (by omega)).trans e0
  simp only [denL, LV.den, Nm.at_, ez0_1501, Nat.add_zero]
  refine Calls.mono (zl_none _ _ (h.below (hR1500).toBelow h.lt)) ?_
  rintro e1501 w1501 ⟨rfl, hb1501⟩
  have hR1501 := hR1500.below hb1501
  refine Back.of (LB true) hR1501 rfl ?_
  refine sim_run 11 [] (hR1501.cast (by kernel_rfl)) (by kernel_rfl) trivial (fun ρ1502 w1502 hm1502 hR1502 => ?_)
  have hag := hag.moved (hm1502.castL (by kernel_rfl))
  refine sim_ret (LI 1) hR1502 (by kernel_rfl) (by kernel_rfl) ?_
  exact ⟨rfl, hR1502.toBelow⟩
  
theorem zl_issued (gl : Nat) (k : ByteArray) (w : World) (h : Blk w gl 56 #[.pointer none, .map none, .map none]) : Calls Try.prog 32 #[.pointer (some ⟨gl, 0, none⟩), .string k] w fun e w' => e = .returned (.int .i64 0) ∧ Below w.heap.size w w' := by
  obtain ⟨ρ, e0, hR⟩ := ldz_open h
  have hag := Rel.ag_ hR 1 (by kernel_rfl)
  refine sim_enter Try.func32 ρ [.ptr 0 0, LS k] [⟨zeroL, false⟩] (by kernel_rfl) (by simp only [denL, LV.den, Nm.at_, e0]) ?_
  refine sim_run 8 [] (hR.cast (by kernel_rfl)) (by kernel_rfl) trivial (fun ρ1600 w1600 hm1600 hR1600 => ?_)
  have hag := hag.moved (hm1600.castL (by kernel_rfl))
  refine sim_call 42 [.ptr 0 0] (by kernel_rfl) ?_
  have ez0_1601 := (hag.at_ 0 (by omega)).trans e0
  simp only [denL, LV.den, Nm.at_, ez0_1601, Nat.add_zero]
  refine Calls.mono (zl_none _ _ (h.below (hR1600).toBelow h.lt)) ?_
  rintro e1601 w1601 ⟨rfl, hb1601⟩
  have hR1601 := hR1600.below hb1601
  refine Back.of (LB true) hR1601 rfl ?_
  refine sim_run 6 [] (hR1601.cast (by kernel_rfl)) (by kernel_rfl) trivial (fun ρ1602 w1602 hm1602 hR1602 => ?_)
  have hag := hag.moved (hm1602.castL (by kernel_rfl))
  refine sim_ret (LI 0) hR1602 (by kernel_rfl) (by kernel_rfl) ?_
  exact ⟨rfl, hR1602.toBelow⟩
  
theorem zl_blocks (gl : Nat) (w : World) (h : Blk w gl 56 #[.pointer none, .map none, .map none]) : Calls Try.prog 35 #[.pointer (some ⟨gl, 0, none⟩)] w fun e w' => e = .returned (.slice none 0 0) ∧ Below w.heap.size w w' := by
  obtain ⟨ρ, e0, hR⟩ := ldz_open h
  have hag := Rel.ag_ hR 1 (by kernel_rfl)
  refine sim_enter Try.func35 ρ [.ptr 0 0] [⟨zeroL, false⟩] (by kernel_rfl) (by simp only [denL, LV.den, Nm.at_, e0]) ?_
  refine sim_run 8 [] (hR.cast (by kernel_rfl)) (by kernel_rfl) trivial (fun ρ1700 w1700 hm1700 hR1700 => ?_)
  have hag := hag.moved (hm1700.castL (by kernel_rfl))
  refine sim_call 42 [.ptr 0 0] (by kernel_rfl) ?_
  have ez0_1701 := (hag.at_ 0 (by omega)).trans e0
  simp only [denL, LV.den, Nm.at_, ez0_1701, Nat.add_zero]
  refine Calls.mono (zl_none _ _ (h.below (hR1700).toBelow h.lt)) ?_
  rintro e1701 w1701 ⟨rfl, hb1701⟩
  have hR1701 := hR1700.below hb1701
  refine Back.of (LB true) hR1701 rfl ?_
  refine sim_run 6 [] (hR1701.cast (by kernel_rfl)) (by kernel_rfl) trivial (fun ρ1702 w1702 hm1702 hR1702 => ?_)
  have hag := hag.moved (hm1702.castL (by kernel_rfl))
  refine sim_ret (.v (Value.slice none 0 0)) hR1702 (by kernel_rfl) (by kernel_rfl) ?_
  exact ⟨rfl, hR1702.toBelow⟩
  
theorem zl_blocked (gl : Nat) (k1 k2 : ByteArray) (w : World) (h : Blk w gl 56 #[.pointer none, .map none, .map none]) : Calls Try.prog 34 #[.pointer (some ⟨gl, 0, none⟩), .agg #[.string k1, .string k2]] w fun e w' => e = .returned (.bool false) ∧ Below w.heap.size w w' := by
  obtain ⟨ρ, e0, hR⟩ := ldz_open h
  have hag := Rel.ag_ hR 1 (by kernel_rfl)
  refine sim_enter Try.func34 ρ [.ptr 0 0, .agg [LS k1, LS k2]] [⟨zeroL, false⟩] (by kernel_rfl) (by simp only [denL, LV.den, Nm.at_, e0]) ?_
  refine sim_run 9 [] (hR.cast (by kernel_rfl)) (by kernel_rfl) trivial (fun ρ1800 w1800 hm1800 hR1800 => ?_)
  have hag := hag.moved (hm1800.castL (by kernel_rfl))
  refine sim_call 42 [.ptr 0 0] (by kernel_rfl) ?_
  have ez0_1801 := (hag.at_ 0 (by omega)).trans e0
  simp only [denL, LV.den, Nm.at_, ez0_1801, Nat.add_zero]
  refine Calls.mono (zl_none _ _ (h.below (hR1800).toBelow h.lt)) ?_
  rintro e1801 w1801 ⟨rfl, hb1801⟩
  have hR1801 := hR1800.below hb1801
  refine Back.of (LB true) hR1801 rfl ?_
  refine sim_run 6 [] (hR1801.cast (by kernel_rfl)) (by kernel_rfl) trivial (fun ρ1802 w1802 hm1802 hR1802 => ?_)
  have hag := hag.moved (hm1802.castL (by kernel_rfl))
  refine sim_ret (LB false) hR1802 (by kernel_rfl) (by kernel_rfl) ?_
  exact ⟨rfl, hR1802.toBelow⟩
  
end Go.Proofs.Ytgbgedaedcofcaa
