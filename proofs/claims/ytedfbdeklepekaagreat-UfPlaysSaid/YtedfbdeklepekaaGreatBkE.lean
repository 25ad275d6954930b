/-
  The box of lists: what its methods do at a kind of which nothing is kept (Texts, Ints, Keys, Postings, Parties, Accounts, Assets, Insts, Pairs, Allegs, Links, Pledges, Loans, Takes, Legs, Stocks, Steps).
-/
import Derived.Test.YtedfbdeklepekaaGreatProg
import Derived.Test.YtedfbdeklepekaaGreatBkB
namespace Go.Proofs.YtedfbdeklepekaaGreat
open Go Go.RowKit
attribute [local irreducible] run goO leaveK someK nextK nextT nextOT nextOD loopBody loopRest loopK fillJ tmplOf tmplJ mergeT At AtO drawOk ordOf gateOf callC callO topOp topO idxOf appOf storeOf clearOf sliceOf calleeOf calleeO topQ idxQ newRowOf resL stepOp seek
set_option maxRecDepth 100000 in
theorem stillTexts_nil (x : Nat → Value) (b : Nat) (w : World) (h : Blk w b 56 (bkC x).toArray) (hx : x 0 = nilS) : Calls Tryz.prog 64 #[.pointer (some ⟨b, 0, none⟩)] w fun e w' => e = .returned (.bool true) ∧ Below w.heap.size w w' := by
  obtain ⟨ρ, e0, hR⟩ := blk_open h false [] (by simp) (by kernel_rfl)
  have e : (bkC x).map LV.v = (.v (.slice none 0 0) :: .v (x 1) :: .v (x 2) :: .v (x 3) :: .v (x 4) :: .v (x 5) :: .v (x 6) :: .v (x 7) :: .v (x 8) :: .v (x 9) :: .v (x 10) :: .v (x 11) :: .v (x 12) :: .v (x 13) :: .v (x 14) :: .v (x 15) :: .v (x 16) :: .v (x 17) :: .v (x 18) :: .v (x 19) :: .v (x 20) :: .v (x 21) :: .v (x 22) :: .v (x 23) :: .v (x 24) :: .v (x 25) :: .v (x 26) :: .v (x 27) :: .v (x 28) :: .v (x 29) :: .v (x 30) :: .v (x 31) :: .v (x 32) :: .v (x 33) :: []) := by
    unfold bkC
    rw [hx]
    rfl
  rw [e] at hR
  clear e
  refine sim_enter Tryz.func64 ρ [.ptr 0 0] [⟨(.v (.slice none 0 0) :: .v (x 1) :: .v (x 2) :: .v (x 3) :: .v (x 4) :: .v (x 5) :: .v (x 6) :: .v (x 7) :: .v (x 8) :: .v (x 9) :: .v (x 10) :: .v (x 11) :: .v (x 12) :: .v (x 13) :: .v (x 14) :: .v (x 15) :: .v (x 16) :: .v (x 17) :: .v (x 18) :: .v (x 19) :: .v (x 20) :: .v (x 21) :: .v (x 22) :: .v (x 23) :: .v (x 24) :: .v (x 25) :: .v (x 26) :: .v (x 27) :: .v (x 28) :: .v (x 29) :: .v (x 30) :: .v (x 31) :: .v (x 32) :: .v (x 33) :: []), false⟩] (by kernel_rfl) (by simp only [denL, LV.den, Nm.at_, e0]) ?_
  refine sim_run 10 [] (hR.cast (by kernel_rfl)) (by kernel_rfl) trivial (fun ρ100 w100 hm100 hR100 => ?_)
  refine sim_unroll 2 (by kernel_rfl) ?_
  refine sim_run 18 [] (hR100.cast (by kernel_rfl)) (by kernel_rfl) trivial (fun ρ101 w101 hm101 hR101 => ?_)
  refine sim_ret (LB true) hR101 (by kernel_rfl) (by kernel_rfl) ?_
  exact ⟨rfl, hR101.toBelow⟩
  
set_option maxRecDepth 100000 in
theorem putTexts_nil (x : Nat → Value) (b : Nat) (w : World) (h : Blk w b 56 (bkC x).toArray) (hx : x 0 = nilS) : Calls Tryz.prog 85 #[.pointer (some ⟨b, 0, none⟩)] w fun e w' => e = .returned (.tuple #[]) ∧ Below w.heap.size w w' := by
  obtain ⟨ρ, e0, hR⟩ := blk_open h false [] (by simp) (by kernel_rfl)
  have e : (bkC x).map LV.v = (.v (.slice none 0 0) :: .v (x 1) :: .v (x 2) :: .v (x 3) :: .v (x 4) :: .v (x 5) :: .v (x 6) :: .v (x 7) :: .v (x 8) :: .v (x 9) :: .v (x 10) :: .v (x 11) :: .v (x 12) :: .v (x 13) :: .v (x 14) :: .v (x 15) :: .v (x 16) :: .v (x 17) :: .v (x 18) :: .v (x 19) :: .v (x 20) :: .v (x 21) :: .v (x 22) :: .v (x 23) :: .v (x 24) :: .v (x 25) :: .v (x 26) :: .v (x 27) :: .v (x 28) :: .v (x 29) :: .v (x 30) :: .v (x 31) :: .v (x 32) :: .v (x 33) :: []) := by
    unfold bkC
    rw [hx]
    rfl
  rw [e] at hR
  clear e
  refine sim_enter Tryz.func85 ρ [.ptr 0 0] [⟨(.v (.slice none 0 0) :: .v (x 1) :: .v (x 2) :: .v (x 3) :: .v (x 4) :: .v (x 5) :: .v (x 6) :: .v (x 7) :: .v (x 8) :: .v (x 9) :: .v (x 10) :: .v (x 11) :: .v (x 12) :: .v (x 13) :: .v (x 14) :: .v (x 15) :: .v (x 16) :: .v (x 17) :: .v (x 18) :: .v (x 19) :: .v (x 20) :: .v (x 21) :: .v (x 22) :: .v (x 23) :: .v (x 24) :: .v (x 25) :: .v (x 26) :: .v (x 27) :: .v (x 28) :: .v (x 29) :: .v (x 30) :: .v (x 31) :: .v (x 32) :: .v (x 33) :: []), false⟩] (by kernel_rfl) (by simp only [denL, LV.den, Nm.at_, e0]) ?_
  refine sim_run 5 [] (hR.cast (by kernel_rfl)) (by kernel_rfl) trivial (fun ρ200 w200 hm200 hR200 => ?_)
  refine sim_unroll 2 (by kernel_rfl) ?_
  refine sim_run 14 [] (hR200.cast (by kernel_rfl)) (by kernel_rfl) trivial (fun ρ201 w201 hm201 hR201 => ?_)
  refine sim_end (.tup []) hR201 (by kernel_rfl) (by kernel_rfl) ?_
  exact ⟨rfl, hR201.toBelow⟩
  
set_option maxRecDepth 100000 in
theorem growTexts_nil (x : Nat → Value) (b : Nat) (w : World) (h : Blk w b 56 (bkC x).toArray) (hx : x 0 = nilS) : Calls Tryz.prog 98 #[.pointer (some ⟨b, 0, none⟩)] w fun e w' => e = .returned (.slice none 0 0) ∧ Below w.heap.size w w' := by
  obtain ⟨ρ, e0, hR⟩ := blk_open h false [] (by simp) (by kernel_rfl)
  have e : (bkC x).map LV.v = (.v (.slice none 0 0) :: .v (x 1) :: .v (x 2) :: .v (x 3) :: .v (x 4) :: .v (x 5) :: .v (x 6) :: .v (x 7) :: .v (x 8) :: .v (x 9) :: .v (x 10) :: .v (x 11) :: .v (x 12) :: .v (x 13) :: .v (x 14) :: .v (x 15) :: .v (x 16) :: .v (x 17) :: .v (x 18) :: .v (x 19) :: .v (x 20) :: .v (x 21) :: .v (x 22) :: .v (x 23) :: .v (x 24) :: .v (x 25) :: .v (x 26) :: .v (x 27) :: .v (x 28) :: .v (x 29) :: .v (x 30) :: .v (x 31) :: .v (x 32) :: .v (x 33) :: []) := by
    unfold bkC
    rw [hx]
    rfl
  rw [e] at hR
  clear e
  refine sim_enter Tryz.func98 ρ [.ptr 0 0] [⟨(.v (.slice none 0 0) :: .v (x 1) :: .v (x 2) :: .v (x 3) :: .v (x 4) :: .v (x 5) :: .v (x 6) :: .v (x 7) :: .v (x 8) :: .v (x 9) :: .v (x 10) :: .v (x 11) :: .v (x 12) :: .v (x 13) :: .v (x 14) :: .v (x 15) :: .v (x 16) :: .v (x 17) :: .v (x 18) :: .v (x 19) :: .v (x 20) :: .v (x 21) :: .v (x 22) :: .v (x 23) :: .v (x 24) :: .v (x 25) :: .v (x 26) :: .v (x 27) :: .v (x 28) :: .v (x 29) :: .v (x 30) :: .v (x 31) :: .v (x 32) :: .v (x 33) :: []), false⟩] (by kernel_rfl) (by simp only [denL, LV.den, Nm.at_, e0]) ?_
  refine sim_run 14 [] (hR.cast (by kernel_rfl)) (by kernel_rfl) trivial (fun ρ300 w300 hm300 hR300 => ?_)
  refine sim_unroll 2 (by kernel_rfl) ?_
  refine sim_run 19 [] (hR300.cast (by kernel_rfl)) (by kernel_rfl) trivial (fun ρ301 w301 hm301 hR301 => ?_)
  refine sim_ret (.v (Value.slice none 0 0)) hR301 (by kernel_rfl) (by kernel_rfl) ?_
  exact ⟨rfl, hR301.toBelow⟩
  
set_option maxRecDepth 100000 in
theorem markedTexts_nil (w : World) : Calls Tryz.prog 115 #[.slice none 0 0] w fun e w' => e = .returned (.bool true) ∧ Below w.heap.size w w' := by
  refine sim_enter Tryz.func115 ρ0 [.v (.slice none 0 0)] [] (by kernel_rfl) rfl ?_
  have hR := Rel.start [] w ρ0
  refine sim_run 10 [] (hR.cast (by kernel_rfl)) (by kernel_rfl) trivial (fun ρ400 w400 hm400 hR400 => ?_)
  refine sim_unroll 2 (by kernel_rfl) ?_
  refine sim_run 15 [] (hR400.cast (by kernel_rfl)) (by kernel_rfl) trivial (fun ρ401 w401 hm401 hR401 => ?_)
  refine sim_ret (LB true) hR401 (by kernel_rfl) (by kernel_rfl) ?_
  exact ⟨rfl, hR401.toBelow⟩
  
set_option maxRecDepth 100000 in
theorem stillInts_nil (x : Nat → Value) (b : Nat) (w : World) (h : Blk w b 56 (bkC x).toArray) (hx : x 2 = nilS) : Calls Tryz.prog 65 #[.pointer (some ⟨b, 0, none⟩)] w fun e w' => e = .returned (.bool true) ∧ Below w.heap.size w w' := by
  obtain ⟨ρ, e0, hR⟩ := blk_open h false [] (by simp) (by kernel_rfl)
  have e : (bkC x).map LV.v = (.v (x 0) :: .v (x 1) :: .v (.slice none 0 0) :: .v (x 3) :: .v (x 4) :: .v (x 5) :: .v (x 6) :: .v (x 7) :: .v (x 8) :: .v (x 9) :: .v (x 10) :: .v (x 11) :: .v (x 12) :: .v (x 13) :: .v (x 14) :: .v (x 15) :: .v (x 16) :: .v (x 17) :: .v (x 18) :: .v (x 19) :: .v (x 20) :: .v (x 21) :: .v (x 22) :: .v (x 23) :: .v (x 24) :: .v (x 25) :: .v (x 26) :: .v (x 27) :: .v (x 28) :: .v (x 29) :: .v (x 30) :: .v (x 31) :: .v (x 32) :: .v (x 33) :: []) := by
    unfold bkC
    rw [hx]
    rfl
  rw [e] at hR
  clear e
  refine sim_enter Tryz.func65 ρ [.ptr 0 0] [⟨(.v (x 0) :: .v (x 1) :: .v (.slice none 0 0) :: .v (x 3) :: .v (x 4) :: .v (x 5) :: .v (x 6) :: .v (x 7) :: .v (x 8) :: .v (x 9) :: .v (x 10) :: .v (x 11) :: .v (x 12) :: .v (x 13) :: .v (x 14) :: .v (x 15) :: .v (x 16) :: .v (x 17) :: .v (x 18) :: .v (x 19) :: .v (x 20) :: .v (x 21) :: .v (x 22) :: .v (x 23) :: .v (x 24) :: .v (x 25) :: .v (x 26) :: .v (x 27) :: .v (x 28) :: .v (x 29) :: .v (x 30) :: .v (x 31) :: .v (x 32) :: .v (x 33) :: []), false⟩] (by kernel_rfl) (by simp only [denL, LV.den, Nm.at_, e0]) ?_
  refine sim_run 10 [] (hR.cast (by kernel_rfl)) (by kernel_rfl) trivial (fun ρ1100 w1100 hm1100 hR1100 => ?_)
  refine sim_unroll 2 (by kernel_rfl) ?_
  refine sim_run 18 [] (hR1100.cast (by kernel_rfl)) (by kernel_rfl) trivial (fun ρ1101 w1101 hm1101 hR1101 => ?_)
  refine sim_ret (LB true) hR1101 (by kernel_rfl) (by kernel_rfl) ?_
  exact ⟨rfl, hR1101.toBelow⟩
  
set_option maxRecDepth 100000 in
theorem putInts_nil (x : Nat → Value) (b : Nat) (w : World) (h : Blk w b 56 (bkC x).toArray) (hx : x 2 = nilS) : Calls Tryz.prog 86 #[.pointer (some ⟨b, 0, none⟩)] w fun e w' => e = .returned (.tuple #[]) ∧ Below w.heap.size w w' := by
  obtain ⟨ρ, e0, hR⟩ := blk_open h false [] (by simp) (by kernel_rfl)
  have e : (bkC x).map LV.v = (.v (x 0) :: .v (x 1) :: .v (.slice none 0 0) :: .v (x 3) :: .v (x 4) :: .v (x 5) :: .v (x 6) :: .v (x 7) :: .v (x 8) :: .v (x 9) :: .v (x 10) :: .v (x 11) :: .v (x 12) :: .v (x 13) :: .v (x 14) :: .v (x 15) :: .v (x 16) :: .v (x 17) :: .v (x 18) :: .v (x 19) :: .v (x 20) :: .v (x 21) :: .v (x 22) :: .v (x 23) :: .v (x 24) :: .v (x 25) :: .v (x 26) :: .v (x 27) :: .v (x 28) :: .v (x 29) :: .v (x 30) :: .v (x 31) :: .v (x 32) :: .v (x 33) :: []) := by
    unfold bkC
    rw [hx]
    rfl
  rw [e] at hR
  clear e
  refine sim_enter Tryz.func86 ρ [.ptr 0 0] [⟨(.v (x 0) :: .v (x 1) :: .v (.slice none 0 0) :: .v (x 3) :: .v (x 4) :: .v (x 5) :: .v (x 6) :: .v (x 7) :: .v (x 8) :: .v (x 9) :: .v (x 10) :: .v (x 11) :: .v (x 12) :: .v (x 13) :: .v (x 14) :: .v (x 15) :: .v (x 16) :: .v (x 17) :: .v (x 18) :: .v (x 19) :: .v (x 20) :: .v (x 21) :: .v (x 22) :: .v (x 23) :: .v (x 24) :: .v (x 25) :: .v (x 26) :: .v (x 27) :: .v (x 28) :: .v (x 29) :: .v (x 30) :: .v (x 31) :: .v (x 32) :: .v (x 33) :: []), false⟩] (by kernel_rfl) (by simp only [denL, LV.den, Nm.at_, e0]) ?_
  refine sim_run 5 [] (hR.cast (by kernel_rfl)) (by kernel_rfl) trivial (fun ρ1200 w1200 hm1200 hR1200 => ?_)
  refine sim_unroll 2 (by kernel_rfl) ?_
  refine sim_run 14 [] (hR1200.cast (by kernel_rfl)) (by kernel_rfl) trivial (fun ρ1201 w1201 hm1201 hR1201 => ?_)
  refine sim_end (.tup []) hR1201 (by kernel_rfl) (by kernel_rfl) ?_
  exact ⟨rfl, hR1201.toBelow⟩
  
set_option maxRecDepth 100000 in
theorem growInts_nil (x : Nat → Value) (b : Nat) (w : World) (h : Blk w b 56 (bkC x).toArray) (hx : x 2 = nilS) : Calls Tryz.prog 99 #[.pointer (some ⟨b, 0, none⟩)] w fun e w' => e = .returned (.slice none 0 0) ∧ Below w.heap.size w w' := by
  obtain ⟨ρ, e0, hR⟩ := blk_open h false [] (by simp) (by kernel_rfl)
  have e : (bkC x).map LV.v = (.v (x 0) :: .v (x 1) :: .v (.slice none 0 0) :: .v (x 3) :: .v (x 4) :: .v (x 5) :: .v (x 6) :: .v (x 7) :: .v (x 8) :: .v (x 9) :: .v (x 10) :: .v (x 11) :: .v (x 12) :: .v (x 13) :: .v (x 14) :: .v (x 15) :: .v (x 16) :: .v (x 17) :: .v (x 18) :: .v (x 19) :: .v (x 20) :: .v (x 21) :: .v (x 22) :: .v (x 23) :: .v (x 24) :: .v (x 25) :: .v (x 26) :: .v (x 27) :: .v (x 28) :: .v (x 29) :: .v (x 30) :: .v (x 31) :: .v (x 32) :: .v (x 33) :: []) := by
    unfold bkC
    rw [hx]
    rfl
  rw [e] at hR
  clear e
  refine sim_enter Tryz.func99 ρ [.ptr 0 0] [⟨(.v (x 0) :: .v (x 1) :: .v (.slice none 0 0) :: .v (x 3) :: .v (x 4) :: .v (x 5) :: .v (x 6) :: .v (x 7) :: .v (x 8) :: .v (x 9) :: .v (x 10) :: .v (x 11) :: .v (x 12) :: .v (x 13) :: .v (x 14) :: .v (x 15) :: .v (x 16) :: .v (x 17) :: .v (x 18) :: .v (x 19) :: .v (x 20) :: .v (x 21) :: .v (x 22) :: .v (x 23) :: .v (x 24) :: .v (x 25) :: .v (x 26) :: .v (x 27) :: .v (x 28) :: .v (x 29) :: .v (x 30) :: .v (x 31) :: .v (x 32) :: .v (x 33) :: []), false⟩] (by kernel_rfl) (by simp only [denL, LV.den, Nm.at_, e0]) ?_
  refine sim_run 14 [] (hR.cast (by kernel_rfl)) (by kernel_rfl) trivial (fun ρ1300 w1300 hm1300 hR1300 => ?_)
  refine sim_unroll 2 (by kernel_rfl) ?_
  refine sim_run 19 [] (hR1300.cast (by kernel_rfl)) (by kernel_rfl) trivial (fun ρ1301 w1301 hm1301 hR1301 => ?_)
  refine sim_ret (.v (Value.slice none 0 0)) hR1301 (by kernel_rfl) (by kernel_rfl) ?_
  exact ⟨rfl, hR1301.toBelow⟩
  
set_option maxRecDepth 100000 in
theorem markedInts_nil (w : World) : Calls Tryz.prog 116 #[.slice none 0 0] w fun e w' => e = .returned (.bool true) ∧ Below w.heap.size w w' := by
  refine sim_enter Tryz.func116 ρ0 [.v (.slice none 0 0)] [] (by kernel_rfl) rfl ?_
  have hR := Rel.start [] w ρ0
  refine sim_run 10 [] (hR.cast (by kernel_rfl)) (by kernel_rfl) trivial (fun ρ1400 w1400 hm1400 hR1400 => ?_)
  refine sim_unroll 2 (by kernel_rfl) ?_
  refine sim_run 15 [] (hR1400.cast (by kernel_rfl)) (by kernel_rfl) trivial (fun ρ1401 w1401 hm1401 hR1401 => ?_)
  refine sim_ret (LB true) hR1401 (by kernel_rfl) (by kernel_rfl) ?_
  exact ⟨rfl, hR1401.toBelow⟩
  
set_option maxRecDepth 100000 in
theorem stillKeys_nil (x : Nat → Value) (b : Nat) (w : World) (h : Blk w b 56 (bkC x).toArray) (hx : x 4 = nilS) : Calls Tryz.prog 66 #[.pointer (some ⟨b, 0, none⟩)] w fun e w' => e = .returned (.bool true) ∧ Below w.heap.size w w' := by
  obtain ⟨ρ, e0, hR⟩ := blk_open h false [] (by simp) (by kernel_rfl)
  have e : (bkC x).map LV.v = (.v (x 0) :: .v (x 1) :: .v (x 2) :: .v (x 3) :: .v (.slice none 0 0) :: .v (x 5) :: .v (x 6) :: .v (x 7) :: .v (x 8) :: .v (x 9) :: .v (x 10) :: .v (x 11) :: .v (x 12) :: .v (x 13) :: .v (x 14) :: .v (x 15) :: .v (x 16) :: .v (x 17) :: .v (x 18) :: .v (x 19) :: .v (x 20) :: .v (x 21) :: .v (x 22) :: .v (x 23) :: .v (x 24) :: .v (x 25) :: .v (x 26) :: .v (x 27) :: .v (x 28) :: .v (x 29) :: .v (x 30) :: .v (x 31) :: .v (x 32) :: .v (x 33) :: []) := by
    unfold bkC
    rw [hx]
    rfl
  rw [e] at hR
  clear e
  refine sim_enter Tryz.func66 ρ [.ptr 0 0] [⟨(.v (x 0) :: .v (x 1) :: .v (x 2) :: .v (x 3) :: .v (.slice none 0 0) :: .v (x 5) :: .v (x 6) :: .v (x 7) :: .v (x 8) :: .v (x 9) :: .v (x 10) :: .v (x 11) :: .v (x 12) :: .v (x 13) :: .v (x 14) :: .v (x 15) :: .v (x 16) :: .v (x 17) :: .v (x 18) :: .v (x 19) :: .v (x 20) :: .v (x 21) :: .v (x 22) :: .v (x 23) :: .v (x 24) :: .v (x 25) :: .v (x 26) :: .v (x 27) :: .v (x 28) :: .v (x 29) :: .v (x 30) :: .v (x 31) :: .v (x 32) :: .v (x 33) :: []), false⟩] (by kernel_rfl) (by simp only [denL, LV.den, Nm.at_, e0]) ?_
  refine sim_run 10 [] (hR.cast (by kernel_rfl)) (by kernel_rfl) trivial (fun ρ2100 w2100 hm2100 hR2100 => ?_)
  refine sim_unroll 2 (by kernel_rfl) ?_
  refine sim_run 18 [] (hR2100.cast (by kernel_rfl)) (by kernel_rfl) trivial (fun ρ2101 w2101 hm2101 hR2101 => ?_)
  refine sim_ret (LB true) hR2101 (by kernel_rfl) (by kernel_rfl) ?_
  exact ⟨rfl, hR2101.toBelow⟩
  
set_option maxRecDepth 100000 in
theorem putKeys_nil (x : Nat → Value) (b : Nat) (w : World) (h : Blk w b 56 (bkC x).toArray) (hx : x 4 = nilS) : Calls Tryz.prog 87 #[.pointer (some ⟨b, 0, none⟩)] w fun e w' => e = .returned (.tuple #[]) ∧ Below w.heap.size w w' := by
  obtain ⟨ρ, e0, hR⟩ := blk_open h false [] (by simp) (by kernel_rfl)
  have e : (bkC x).map LV.v = (.v (x 0) :: .v (x 1) :: .v (x 2) :: .v (x 3) :: .v (.slice none 0 0) :: .v (x 5) :: .v (x 6) :: .v (x 7) :: .v (x 8) :: .v (x 9) :: .v (x 10) :: .v (x 11) :: .v (x 12) :: .v (x 13) :: .v (x 14) :: .v (x 15) :: .v (x 16) :: .v (x 17) :: .v (x 18) :: .v (x 19) :: .v (x 20) :: .v (x 21) :: .v (x 22) :: .v (x 23) :: .v (x 24) :: .v (x 25) :: .v (x 26) :: .v (x 27) :: .v (x 28) :: .v (x 29) :: .v (x 30) :: .v (x 31) :: .v (x 32) :: .v (x 33) :: []) := by
    unfold bkC
    rw [hx]
    rfl
  rw [e] at hR
  clear e
  refine sim_enter Tryz.func87 ρ [.ptr 0 0] [⟨(.v (x 0) :: .v (x 1) :: .v (x 2) :: .v (x 3) :: .v (.slice none 0 0) :: .v (x 5) :: .v (x 6) :: .v (x 7) :: .v (x 8) :: .v (x 9) :: .v (x 10) :: .v (x 11) :: .v (x 12) :: .v (x 13) :: .v (x 14) :: .v (x 15) :: .v (x 16) :: .v (x 17) :: .v (x 18) :: .v (x 19) :: .v (x 20) :: .v (x 21) :: .v (x 22) :: .v (x 23) :: .v (x 24) :: .v (x 25) :: .v (x 26) :: .v (x 27) :: .v (x 28) :: .v (x 29) :: .v (x 30) :: .v (x 31) :: .v (x 32) :: .v (x 33) :: []), false⟩] (by kernel_rfl) (by simp only [denL, LV.den, Nm.at_, e0]) ?_
  refine sim_run 5 [] (hR.cast (by kernel_rfl)) (by kernel_rfl) trivial (fun ρ2200 w2200 hm2200 hR2200 => ?_)
  refine sim_unroll 2 (by kernel_rfl) ?_
  refine sim_run 14 [] (hR2200.cast (by kernel_rfl)) (by kernel_rfl) trivial (fun ρ2201 w2201 hm2201 hR2201 => ?_)
  refine sim_end (.tup []) hR2201 (by kernel_rfl) (by kernel_rfl) ?_
  exact ⟨rfl, hR2201.toBelow⟩
  
set_option maxRecDepth 100000 in
theorem growKeys_nil (x : Nat → Value) (b : Nat) (w : World) (h : Blk w b 56 (bkC x).toArray) (hx : x 4 = nilS) : Calls Tryz.prog 100 #[.pointer (some ⟨b, 0, none⟩)] w fun e w' => e = .returned (.slice none 0 0) ∧ Below w.heap.size w w' := by
  obtain ⟨ρ, e0, hR⟩ := blk_open h false [] (by simp) (by kernel_rfl)
  have e : (bkC x).map LV.v = (.v (x 0) :: .v (x 1) :: .v (x 2) :: .v (x 3) :: .v (.slice none 0 0) :: .v (x 5) :: .v (x 6) :: .v (x 7) :: .v (x 8) :: .v (x 9) :: .v (x 10) :: .v (x 11) :: .v (x 12) :: .v (x 13) :: .v (x 14) :: .v (x 15) :: .v (x 16) :: .v (x 17) :: .v (x 18) :: .v (x 19) :: .v (x 20) :: .v (x 21) :: .v (x 22) :: .v (x 23) :: .v (x 24) :: .v (x 25) :: .v (x 26) :: .v (x 27) :: .v (x 28) :: .v (x 29) :: .v (x 30) :: .v (x 31) :: .v (x 32) :: .v (x 33) :: []) := by
    unfold bkC
    rw [hx]
    rfl
  rw [e] at hR
  clear e
  refine sim_enter Tryz.func100 ρ [.ptr 0 0] [⟨(.v (x 0) :: .v (x 1) :: .v (x 2) :: .v (x 3) :: .v (.slice none 0 0) :: .v (x 5) :: .v (x 6) :: .v (x 7) :: .v (x 8) :: .v (x 9) :: .v (x 10) :: .v (x 11) :: .v (x 12) :: .v (x 13) :: .v (x 14) :: .v (x 15) :: .v (x 16) :: .v (x 17) :: .v (x 18) :: .v (x 19) :: .v (x 20) :: .v (x 21) :: .v (x 22) :: .v (x 23) :: .v (x 24) :: .v (x 25) :: .v (x 26) :: .v (x 27) :: .v (x 28) :: .v (x 29) :: .v (x 30) :: .v (x 31) :: .v (x 32) :: .v (x 33) :: []), false⟩] (by kernel_rfl) (by simp only [denL, LV.den, Nm.at_, e0]) ?_
  refine sim_run 14 [] (hR.cast (by kernel_rfl)) (by kernel_rfl) trivial (fun ρ2300 w2300 hm2300 hR2300 => ?_)
  refine sim_unroll 2 (by kernel_rfl) ?_
  refine sim_run 19 [] (hR2300.cast (by kernel_rfl)) (by kernel_rfl) trivial (fun ρ2301 w2301 hm2301 hR2301 => ?_)
  refine sim_ret (.v (Value.slice none 0 0)) hR2301 (by kernel_rfl) (by kernel_rfl) ?_
  exact ⟨rfl, hR2301.toBelow⟩
  
set_option maxRecDepth 100000 in
theorem markedKeys_nil (w : World) : Calls Tryz.prog 117 #[.slice none 0 0] w fun e w' => e = .returned (.bool true) ∧ Below w.heap.size w w' := by
  refine sim_enter Tryz.func117 ρ0 [.v (.slice none 0 0)] [] (by kernel_rfl) rfl ?_
  have hR := Rel.start [] w ρ0
  refine sim_run 10 [] (hR.cast (by kernel_rfl)) (by kernel_rfl) trivial (fun ρ2400 w2400 hm2400 hR2400 => ?_)
  refine sim_unroll 2 (by kernel_rfl) ?_
  refine sim_run 15 [] (hR2400.cast (by kernel_rfl)) (by kernel_rfl) trivial (fun ρ2401 w2401 hm2401 hR2401 => ?_)
  refine sim_ret (LB true) hR2401 (by kernel_rfl) (by kernel_rfl) ?_
  exact ⟨rfl, hR2401.toBelow⟩
  
set_option maxRecDepth 100000 in
theorem stillPostings_nil (x : Nat → Value) (b : Nat) (w : World) (h : Blk w b 56 (bkC x).toArray) (hx : x 6 = nilS) : Calls Tryz.prog 67 #[.pointer (some ⟨b, 0, none⟩)] w fun e w' => e = .returned (.bool true) ∧ Below w.heap.size w w' := by
  obtain ⟨ρ, e0, hR⟩ := blk_open h false [] (by simp) (by kernel_rfl)
  have e : (bkC x).map LV.v = (.v (x 0) :: .v (x 1) :: .v (x 2) :: .v (x 3) :: .v (x 4) :: .v (x 5) :: .v (.slice none 0 0) :: .v (x 7) :: .v (x 8) :: .v (x 9) :: .v (x 10) :: .v (x 11) :: .v (x 12) :: .v (x 13) :: .v (x 14) :: .v (x 15) :: .v (x 16) :: .v (x 17) :: .v (x 18) :: .v (x 19) :: .v (x 20) :: .v (x 21) :: .v (x 22) :: .v (x 23) :: .v (x 24) :: .v (x 25) :: .v (x 26) :: .v (x 27) :: .v (x 28) :: .v (x 29) :: .v (x 30) :: .v (x 31) :: .v (x 32) :: .v (x 33) :: []) := by
    unfold bkC
    rw [hx]
    rfl
  rw [e] at hR
  clear e
  refine sim_enter Tryz.func67 ρ [.ptr 0 0] [⟨(.v (x 0) :: .v (x 1) :: .v (x 2) :: .v (x 3) :: .v (x 4) :: .v (x 5) :: .v (.slice none 0 0) :: .v (x 7) :: .v (x 8) :: .v (x 9) :: .v (x 10) :: .v (x 11) :: .v (x 12) :: .v (x 13) :: .v (x 14) :: .v (x 15) :: .v (x 16) :: .v (x 17) :: .v (x 18) :: .v (x 19) :: .v (x 20) :: .v (x 21) :: .v (x 22) :: .v (x 23) :: .v (x 24) :: .v (x 25) :: .v (x 26) :: .v (x 27) :: .v (x 28) :: .v (x 29) :: .v (x 30) :: .v (x 31) :: .v (x 32) :: .v (x 33) :: []), false⟩] (by kernel_rfl) (by simp only [denL, LV.den, Nm.at_, e0]) ?_
  refine sim_run 10 [] (hR.cast (by kernel_rfl)) (by kernel_rfl) trivial (fun ρ3100 w3100 hm3100 hR3100 => ?_)
  refine sim_unroll 2 (by kernel_rfl) ?_
  refine sim_run 18 [] (hR3100.cast (by kernel_rfl)) (by kernel_rfl) trivial (fun ρ3101 w3101 hm3101 hR3101 => ?_)
  refine sim_ret (LB true) hR3101 (by kernel_rfl) (by kernel_rfl) ?_
  exact ⟨rfl, hR3101.toBelow⟩
  
set_option maxRecDepth 100000 in
theorem putPostings_nil (x : Nat → Value) (b : Nat) (w : World) (h : Blk w b 56 (bkC x).toArray) (hx : x 6 = nilS) : Calls Tryz.prog 88 #[.pointer (some ⟨b, 0, none⟩)] w fun e w' => e = .returned (.tuple #[]) ∧ Below w.heap.size w w' := by
  obtain ⟨ρ, e0, hR⟩ := blk_open h false [] (by simp) (by kernel_rfl)
  have e : (bkC x).map LV.v = (.v (x 0) :: .v (x 1) :: .v (x 2) :: .v (x 3) :: .v (x 4) :: .v (x 5) :: .v (.slice none 0 0) :: .v (x 7) :: .v (x 8) :: .v (x 9) :: .v (x 10) :: .v (x 11) :: .v (x 12) :: .v (x 13) :: .v (x 14) :: .v (x 15) :: .v (x 16) :: .v (x 17) :: .v (x 18) :: .v (x 19) :: .v (x 20) :: .v (x 21) :: .v (x 22) :: .v (x 23) :: .v (x 24) :: .v (x 25) :: .v (x 26) :: .v (x 27) :: .v (x 28) :: .v (x 29) :: .v (x 30) :: .v (x 31) :: .v (x 32) :: .v (x 33) :: []) := by
    unfold bkC
    rw [hx]
    rfl
  rw [e] at hR
  clear e
  refine sim_enter Tryz.func88 ρ [.ptr 0 0] [⟨(.v (x 0) :: .v (x 1) :: .v (x 2) :: .v (x 3) :: .v (x 4) :: .v (x 5) :: .v (.slice none 0 0) :: .v (x 7) :: .v (x 8) :: .v (x 9) :: .v (x 10) :: .v (x 11) :: .v (x 12) :: .v (x 13) :: .v (x 14) :: .v (x 15) :: .v (x 16) :: .v (x 17) :: .v (x 18) :: .v (x 19) :: .v (x 20) :: .v (x 21) :: .v (x 22) :: .v (x 23) :: .v (x 24) :: .v (x 25) :: .v (x 26) :: .v (x 27) :: .v (x 28) :: .v (x 29) :: .v (x 30) :: .v (x 31) :: .v (x 32) :: .v (x 33) :: []), false⟩] (by kernel_rfl) (by simp only [denL, LV.den, Nm.at_, e0]) ?_
  refine sim_run 5 [] (hR.cast (by kernel_rfl)) (by kernel_rfl) trivial (fun ρ3200 w3200 hm3200 hR3200 => ?_)
  refine sim_unroll 2 (by kernel_rfl) ?_
  refine sim_run 14 [] (hR3200.cast (by kernel_rfl)) (by kernel_rfl) trivial (fun ρ3201 w3201 hm3201 hR3201 => ?_)
  refine sim_end (.tup []) hR3201 (by kernel_rfl) (by kernel_rfl) ?_
  exact ⟨rfl, hR3201.toBelow⟩
  
set_option maxRecDepth 100000 in
theorem growPostings_nil (x : Nat → Value) (b : Nat) (w : World) (h : Blk w b 56 (bkC x).toArray) (hx : x 6 = nilS) : Calls Tryz.prog 101 #[.pointer (some ⟨b, 0, none⟩)] w fun e w' => e = .returned (.slice none 0 0) ∧ Below w.heap.size w w' := by
  obtain ⟨ρ, e0, hR⟩ := blk_open h false [] (by simp) (by kernel_rfl)
  have e : (bkC x).map LV.v = (.v (x 0) :: .v (x 1) :: .v (x 2) :: .v (x 3) :: .v (x 4) :: .v (x 5) :: .v (.slice none 0 0) :: .v (x 7) :: .v (x 8) :: .v (x 9) :: .v (x 10) :: .v (x 11) :: .v (x 12) :: .v (x 13) :: .v (x 14) :: .v (x 15) :: .v (x 16) :: .v (x 17) :: .v (x 18) :: .v (x 19) :: .v (x 20) :: .v (x 21) :: .v (x 22) :: .v (x 23) :: .v (x 24) :: .v (x 25) :: .v (x 26) :: .v (x 27) :: .v (x 28) :: .v (x 29) :: .v (x 30) :: .v (x 31) :: .v (x 32) :: .v (x 33) :: []) := by
    unfold bkC
    rw [hx]
    rfl
  rw [e] at hR
  clear e
  refine sim_enter Tryz.func101 ρ [.ptr 0 0] [⟨(.v (x 0) :: .v (x 1) :: .v (x 2) :: .v (x 3) :: .v (x 4) :: .v (x 5) :: .v (.slice none 0 0) :: .v (x 7) :: .v (x 8) :: .v (x 9) :: .v (x 10) :: .v (x 11) :: .v (x 12) :: .v (x 13) :: .v (x 14) :: .v (x 15) :: .v (x 16) :: .v (x 17) :: .v (x 18) :: .v (x 19) :: .v (x 20) :: .v (x 21) :: .v (x 22) :: .v (x 23) :: .v (x 24) :: .v (x 25) :: .v (x 26) :: .v (x 27) :: .v (x 28) :: .v (x 29) :: .v (x 30) :: .v (x 31) :: .v (x 32) :: .v (x 33) :: []), false⟩] (by kernel_rfl) (by simp only [denL, LV.den, Nm.at_, e0]) ?_
  refine sim_run 14 [] (hR.cast (by kernel_rfl)) (by kernel_rfl) trivial (fun ρ3300 w3300 hm3300 hR3300 => ?_)
  refine sim_unroll 2 (by kernel_rfl) ?_
  refine sim_run 19 [] (hR3300.cast (by kernel_rfl)) (by kernel_rfl) trivial (fun ρ3301 w3301 hm3301 hR3301 => ?_)
  refine sim_ret (.v (Value.slice none 0 0)) hR3301 (by kernel_rfl) (by kernel_rfl) ?_
  exact ⟨rfl, hR3301.toBelow⟩
  
set_option maxRecDepth 100000 in
theorem markedPostings_nil (w : World) : Calls Tryz.prog 118 #[.slice none 0 0] w fun e w' => e = .returned (.bool true) ∧ Below w.heap.size w w' := by
  refine sim_enter Tryz.func118 ρ0 [.v (.slice none 0 0)] [] (by kernel_rfl) rfl ?_
  have hR := Rel.start [] w ρ0
  refine sim_run 10 [] (hR.cast (by kernel_rfl)) (by kernel_rfl) trivial (fun ρ3400 w3400 hm3400 hR3400 => ?_)
  refine sim_unroll 2 (by kernel_rfl) ?_
  refine sim_run 15 [] (hR3400.cast (by kernel_rfl)) (by kernel_rfl) trivial (fun ρ3401 w3401 hm3401 hR3401 => ?_)
  refine sim_ret (LB true) hR3401 (by kernel_rfl) (by kernel_rfl) ?_
  exact ⟨rfl, hR3401.toBelow⟩
  
set_option maxRecDepth 100000 in
theorem stillParties_nil (x : Nat → Value) (b : Nat) (w : World) (h : Blk w b 56 (bkC x).toArray) (hx : x 8 = nilS) : Calls Tryz.prog 68 #[.pointer (some ⟨b, 0, none⟩)] w fun e w' => e = .returned (.bool true) ∧ Below w.heap.size w w' := by
  obtain ⟨ρ, e0, hR⟩ := blk_open h false [] (by simp) (by kernel_rfl)
  have e : (bkC x).map LV.v = (.v (x 0) :: .v (x 1) :: .v (x 2) :: .v (x 3) :: .v (x 4) :: .v (x 5) :: .v (x 6) :: .v (x 7) :: .v (.slice none 0 0) :: .v (x 9) :: .v (x 10) :: .v (x 11) :: .v (x 12) :: .v (x 13) :: .v (x 14) :: .v (x 15) :: .v (x 16) :: .v (x 17) :: .v (x 18) :: .v (x 19) :: .v (x 20) :: .v (x 21) :: .v (x 22) :: .v (x 23) :: .v (x 24) :: .v (x 25) :: .v (x 26) :: .v (x 27) :: .v (x 28) :: .v (x 29) :: .v (x 30) :: .v (x 31) :: .v (x 32) :: .v (x 33) :: []) := by
    unfold bkC
    rw [hx]
    rfl
  rw [e] at hR
  clear e
  refine sim_enter Tryz.func68 ρ [.ptr 0 0] [⟨(.v (x 0) :: .v (x 1) :: .v (x 2) :: .v (x 3) :: .v (x 4) :: .v (x 5) :: .v (x 6) :: .v (x 7) :: .v (.slice none 0 0) :: .v (x 9) :: .v (x 10) :: .v (x 11) :: .v (x 12) :: .v (x 13) :: .v (x 14) :: .v (x 15) :: .v (x 16) :: .v (x 17) :: .v (x 18) :: .v (x 19) :: .v (x 20) :: .v (x 21) :: .v (x 22) :: .v (x 23) :: .v (x 24) :: .v (x 25) :: .v (x 26) :: .v (x 27) :: .v (x 28) :: .v (x 29) :: .v (x 30) :: .v (x 31) :: .v (x 32) :: .v (x 33) :: []), false⟩] (by kernel_rfl) (by simp only [denL, LV.den, Nm.at_, e0]) ?_
  refine sim_run 10 [] (hR.cast (by kernel_rfl)) (by kernel_rfl) trivial (fun ρ4100 w4100 hm4100 hR4100 => ?_)
  refine sim_unroll 2 (by kernel_rfl) ?_
  refine sim_run 18 [] (hR4100.cast (by kernel_rfl)) (by kernel_rfl) trivial (fun ρ4101 w4101 hm4101 hR4101 => ?_)
  refine sim_ret (LB true) hR4101 (by kernel_rfl) (by kernel_rfl) ?_
  exact ⟨rfl, hR4101.toBelow⟩
  
set_option maxRecDepth 100000 in
theorem putParties_nil (x : Nat → Value) (b : Nat) (w : World) (h : Blk w b 56 (bkC x).toArray) (hx : x 8 = nilS) : Calls Tryz.prog 89 #[.pointer (some ⟨b, 0, none⟩)] w fun e w' => e = .returned (.tuple #[]) ∧ Below w.heap.size w w' := by
  obtain ⟨ρ, e0, hR⟩ := blk_open h false [] (by simp) (by kernel_rfl)
  have e : (bkC x).map LV.v = (.v (x 0) :: .v (x 1) :: .v (x 2) :: .v (x 3) :: .v (x 4) :: .v (x 5) :: .v (x 6) :: .v (x 7) :: .v (.slice none 0 0) :: .v (x 9) :: .v (x 10) :: .v (x 11) :: .v (x 12) :: .v (x 13) :: .v (x 14) :: .v (x 15) :: .v (x 16) :: .v (x 17) :: .v (x 18) :: .v (x 19) :: .v (x 20) :: .v (x 21) :: .v (x 22) :: .v (x 23) :: .v (x 24) :: .v (x 25) :: .v (x 26) :: .v (x 27) :: .v (x 28) :: .v (x 29) :: .v (x 30) :: .v (x 31) :: .v (x 32) :: .v (x 33) :: []) := by
    unfold bkC
    rw [hx]
    rfl
  rw [e] at hR
  clear e
  refine sim_enter Tryz.func89 ρ [.ptr 0 0] [⟨(.v (x 0) :: .v (x 1) :: .v (x 2) :: .v (x 3) :: .v (x 4) :: .v (x 5) :: .v (x 6) :: .v (x 7) :: .v (.slice none 0 0) :: .v (x 9) :: .v (x 10) :: .v (x 11) :: .v (x 12) :: .v (x 13) :: .v (x 14) :: .v (x 15) :: .v (x 16) :: .v (x 17) :: .v (x 18) :: .v (x 19) :: .v (x 20) :: .v (x 21) :: .v (x 22) :: .v (x 23) :: .v (x 24) :: .v (x 25) :: .v (x 26) :: .v (x 27) :: .v (x 28) :: .v (x 29) :: .v (x 30) :: .v (x 31) :: .v (x 32) :: .v (x 33) :: []), false⟩] (by kernel_rfl) (by simp only [denL, LV.den, Nm.at_, e0]) ?_
  refine sim_run 5 [] (hR.cast (by kernel_rfl)) (by kernel_rfl) trivial (fun ρ4200 w4200 hm4200 hR4200 => ?_)
  refine sim_unroll 2 (by kernel_rfl) ?_
  refine sim_run 14 [] (hR4200.cast (by kernel_rfl)) (by kernel_rfl) trivial (fun ρ4201 w4201 hm4201 hR4201 => ?_)
  refine sim_end (.tup []) hR4201 (by kernel_rfl) (by kernel_rfl) ?_
  exact ⟨rfl, hR4201.toBelow⟩
  
set_option maxRecDepth 100000 in
theorem growParties_nil (x : Nat → Value) (b : Nat) (w : World) (h : Blk w b 56 (bkC x).toArray) (hx : x 8 = nilS) : Calls Tryz.prog 102 #[.pointer (some ⟨b, 0, none⟩)] w fun e w' => e = .returned (.slice none 0 0) ∧ Below w.heap.size w w' := by
  obtain ⟨ρ, e0, hR⟩ := blk_open h false [] (by simp) (by kernel_rfl)
  have e : (bkC x).map LV.v = (.v (x 0) :: .v (x 1) :: .v (x 2) :: .v (x 3) :: .v (x 4) :: .v (x 5) :: .v (x 6) :: .v (x 7) :: .v (.slice none 0 0) :: .v (x 9) :: .v (x 10) :: .v (x 11) :: .v (x 12) :: .v (x 13) :: .v (x 14) :: .v (x 15) :: .v (x 16) :: .v (x 17) :: .v (x 18) :: .v (x 19) :: .v (x 20) :: .v (x 21) :: .v (x 22) :: .v (x 23) :: .v (x 24) :: .v (x 25) :: .v (x 26) :: .v (x 27) :: .v (x 28) :: .v (x 29) :: .v (x 30) :: .v (x 31) :: .v (x 32) :: .v (x 33) :: []) := by
    unfold bkC
    rw [hx]
    rfl
  rw [e] at hR
  clear e
  refine sim_enter Tryz.func102 ρ [.ptr 0 0] [⟨(.v (x 0) :: .v (x 1) :: .v (x 2) :: .v (x 3) :: .v (x 4) :: .v (x 5) :: .v (x 6) :: .v (x 7) :: .v (.slice none 0 0) :: .v (x 9) :: .v (x 10) :: .v (x 11) :: .v (x 12) :: .v (x 13) :: .v (x 14) :: .v (x 15) :: .v (x 16) :: .v (x 17) :: .v (x 18) :: .v (x 19) :: .v (x 20) :: .v (x 21) :: .v (x 22) :: .v (x 23) :: .v (x 24) :: .v (x 25) :: .v (x 26) :: .v (x 27) :: .v (x 28) :: .v (x 29) :: .v (x 30) :: .v (x 31) :: .v (x 32) :: .v (x 33) :: []), false⟩] (by kernel_rfl) (by simp only [denL, LV.den, Nm.at_, e0]) ?_
  refine sim_run 14 [] (hR.cast (by kernel_rfl)) (by kernel_rfl) trivial (fun ρ4300 w4300 hm4300 hR4300 => ?_)
  refine sim_unroll 2 (by kernel_rfl) ?_
  refine sim_run 19 [] (hR4300.cast (by kernel_rfl)) (by kernel_rfl) trivial (fun ρ4301 w4301 hm4301 hR4301 => ?_)
  refine sim_ret (.v (Value.slice none 0 0)) hR4301 (by kernel_rfl) (by kernel_rfl) ?_
  exact ⟨rfl, hR4301.toBelow⟩
  
set_option maxRecDepth 100000 in
theorem markedParties_nil (w : World) : Calls Tryz.prog 119 #[.slice none 0 0] w fun e w' => e = .returned (.bool true) ∧ Below w.heap.size w w' := by
  refine sim_enter Tryz.func119 ρ0 [.v (.slice none 0 0)] [] (by kernel_rfl) rfl ?_
  have hR := Rel.start [] w ρ0
  refine sim_run 10 [] (hR.cast (by kernel_rfl)) (by kernel_rfl) trivial (fun ρ4400 w4400 hm4400 hR4400 => ?_)
  refine sim_unroll 2 (by kernel_rfl) ?_
  refine sim_run 15 [] (hR4400.cast (by kernel_rfl)) (by kernel_rfl) trivial (fun ρ4401 w4401 hm4401 hR4401 => ?_)
  refine sim_ret (LB true) hR4401 (by kernel_rfl) (by kernel_rfl) ?_
  exact ⟨rfl, hR4401.toBelow⟩
  
set_option maxRecDepth 100000 in
theorem stillAccounts_nil (x : Nat → Value) (b : Nat) (w : World) (h : Blk w b 56 (bkC x).toArray) (hx : x 10 = nilS) : Calls Tryz.prog 69 #[.pointer (some ⟨b, 0, none⟩)] w fun e w' => e = .returned (.bool true) ∧ Below w.heap.size w w' := by
  obtain ⟨ρ, e0, hR⟩ := blk_open h false [] (by simp) (by kernel_rfl)
  have e : (bkC x).map LV.v = (.v (x 0) :: .v (x 1) :: .v (x 2) :: .v (x 3) :: .v (x 4) :: .v (x 5) :: .v (x 6) :: .v (x 7) :: .v (x 8) :: .v (x 9) :: .v (.slice none 0 0) :: .v (x 11) :: .v (x 12) :: .v (x 13) :: .v (x 14) :: .v (x 15) :: .v (x 16) :: .v (x 17) :: .v (x 18) :: .v (x 19) :: .v (x 20) :: .v (x 21) :: .v (x 22) :: .v (x 23) :: .v (x 24) :: .v (x 25) :: .v (x 26) :: .v (x 27) :: .v (x 28) :: .v (x 29) :: .v (x 30) :: .v (x 31) :: .v (x 32) :: .v (x 33) :: []) := by
    unfold bkC
    rw [hx]
    rfl
  rw [e] at hR
  clear e
  refine sim_enter Tryz.func69 ρ [.ptr 0 0] [⟨(.v (x 0) :: .v (x 1) :: .v (x 2) :: .v (x 3) :: .v (x 4) :: .v (x 5) :: .v (x 6) :: .v (x 7) :: .v (x 8) :: .v (x 9) :: .v (.slice none 0 0) :: .v (x 11) :: .v (x 12) :: .v (x 13) :: .v (x 14) :: .v (x 15) :: .v (x 16) :: .v (x 17) :: .v (x 18) :: .v (x 19) :: .v (x 20) :: .v (x 21) :: .v (x 22) :: .v (x 23) :: .v (x 24) :: .v (x 25) :: .v (x 26) :: .v (x 27) :: .v (x 28) :: .v (x 29) :: .v (x 30) :: .v (x 31) :: .v (x 32) :: .v (x 33) :: []), false⟩] (by kernel_rfl) (by simp only [denL, LV.den, Nm.at_, e0]) ?_
  refine sim_run 10 [] (hR.cast (by kernel_rfl)) (by kernel_rfl) trivial (fun ρ5100 w5100 hm5100 hR5100 => ?_)
  refine sim_unroll 2 (by kernel_rfl) ?_
  refine sim_run 18 [] (hR5100.cast (by kernel_rfl)) (by kernel_rfl) trivial (fun ρ5101 w5101 hm5101 hR5101 => ?_)
  refine sim_ret (LB true) hR5101 (by kernel_rfl) (by kernel_rfl) ?_
  exact ⟨rfl, hR5101.toBelow⟩
  
set_option maxRecDepth 100000 in
theorem putAccounts_nil (x : Nat → Value) (b : Nat) (w : World) (h : Blk w b 56 (bkC x).toArray) (hx : x 10 = nilS) : Calls Tryz.prog 90 #[.pointer (some ⟨b, 0, none⟩)] w fun e w' => e = .returned (.tuple #[]) ∧ Below w.heap.size w w' := by
  obtain ⟨ρ, e0, hR⟩ := blk_open h false [] (by simp) (by kernel_rfl)
  have e : (bkC x).map LV.v = (.v (x 0) :: .v (x 1) :: .v (x 2) :: .v (x 3) :: .v (x 4) :: .v (x 5) :: .v (x 6) :: .v (x 7) :: .v (x 8) :: .v (x 9) :: .v (.slice none 0 0) :: .v (x 11) :: .v (x 12) :: .v (x 13) :: .v (x 14) :: .v (x 15) :: .v (x 16) :: .v (x 17) :: .v (x 18) :: .v (x 19) :: .v (x 20) :: .v (x 21) :: .v (x 22) :: .v (x 23) :: .v (x 24) :: .v (x 25) :: .v (x 26) :: .v (x 27) :: .v (x 28) :: .v (x 29) :: .v (x 30) :: .v (x 31) :: .v (x 32) :: .v (x 33) :: []) := by
    unfold bkC
    rw [hx]
    rfl
  rw [e] at hR
  clear e
  refine sim_enter Tryz.func90 ρ [.ptr 0 0] [⟨(.v (x 0) :: .v (x 1) :: .v (x 2) :: .v (x 3) :: .v (x 4) :: .v (x 5) :: .v (x 6) :: .v (x 7) :: .v (x 8) :: .v (x 9) :: .v (.slice none 0 0) :: .v (x 11) :: .v (x 12) :: .v (x 13) :: .v (x 14) :: .v (x 15) :: .v (x 16) :: .v (x 17) :: .v (x 18) :: .v (x 19) :: .v (x 20) :: .v (x 21) :: .v (x 22) :: .v (x 23) :: .v (x 24) :: .v (x 25) :: .v (x 26) :: .v (x 27) :: .v (x 28) :: .v (x 29) :: .v (x 30) :: .v (x 31) :: .v (x 32) :: .v (x 33) :: []), false⟩] (by kernel_rfl) (by simp only [denL, LV.den, Nm.at_, e0]) ?_
  refine sim_run 5 [] (hR.cast (by kernel_rfl)) (by kernel_rfl) trivial (fun ρ5200 w5200 hm5200 hR5200 => ?_)
  refine sim_unroll 2 (by kernel_rfl) ?_
  refine sim_run 14 [] (hR5200.cast (by kernel_rfl)) (by kernel_rfl) trivial (fun ρ5201 w5201 hm5201 hR5201 => ?_)
  refine sim_end (.tup []) hR5201 (by kernel_rfl) (by kernel_rfl) ?_
  exact ⟨rfl, hR5201.toBelow⟩
  
set_option maxRecDepth 100000 in
theorem growAccounts_nil (x : Nat → Value) (b : Nat) (w : World) (h : Blk w b 56 (bkC x).toArray) (hx : x 10 = nilS) : Calls Tryz.prog 103 #[.pointer (some ⟨b, 0, none⟩)] w fun e w' => e = .returned (.slice none 0 0) ∧ Below w.heap.size w w' := by
  obtain ⟨ρ, e0, hR⟩ := blk_open h false [] (by simp) (by kernel_rfl)
  have e : (bkC x).map LV.v = (.v (x 0) :: .v (x 1) :: .v (x 2) :: .v (x 3) :: .v (x 4) :: .v (x 5) :: .v (x 6) :: .v (x 7) :: .v (x 8) :: .v (x 9) :: .v (.slice none 0 0) :: .v (x 11) :: .v (x 12) :: .v (x 13) :: .v (x 14) :: .v (x 15) :: .v (x 16) :: .v (x 17) :: .v (x 18) :: .v (x 19) :: .v (x 20) :: .v (x 21) :: .v (x 22) :: .v (x 23) :: .v (x 24) :: .v (x 25) :: .v (x 26) :: .v (x 27) :: .v (x 28) :: .v (x 29) :: .v (x 30) :: .v (x 31) :: .v (x 32) :: .v (x 33) :: []) := by
    unfold bkC
    rw [hx]
    rfl
  rw [e] at hR
  clear e
  refine sim_enter Tryz.func103 ρ [.ptr 0 0] [⟨(.v (x 0) :: .v (x 1) :: .v (x 2) :: .v (x 3) :: .v (x 4) :: .v (x 5) :: .v (x 6) :: .v (x 7) :: .v (x 8) :: .v (x 9) :: .v (.slice none 0 0) :: .v (x 11) :: .v (x 12) :: .v (x 13) :: .v (x 14) :: .v (x 15) :: .v (x 16) :: .v (x 17) :: .v (x 18) :: .v (x 19) :: .v (x 20) :: .v (x 21) :: .v (x 22) :: .v (x 23) :: .v (x 24) :: .v (x 25) :: .v (x 26) :: .v (x 27) :: .v (x 28) :: .v (x 29) :: .v (x 30) :: .v (x 31) :: .v (x 32) :: .v (x 33) :: []), false⟩] (by kernel_rfl) (by simp only [denL, LV.den, Nm.at_, e0]) ?_
  refine sim_run 14 [] (hR.cast (by kernel_rfl)) (by kernel_rfl) trivial (fun ρ5300 w5300 hm5300 hR5300 => ?_)
  refine sim_unroll 2 (by kernel_rfl) ?_
  refine sim_run 19 [] (hR5300.cast (by kernel_rfl)) (by kernel_rfl) trivial (fun ρ5301 w5301 hm5301 hR5301 => ?_)
  refine sim_ret (.v (Value.slice none 0 0)) hR5301 (by kernel_rfl) (by kernel_rfl) ?_
  exact ⟨rfl, hR5301.toBelow⟩
  
set_option maxRecDepth 100000 in
theorem markedAccounts_nil (w : World) : Calls Tryz.prog 120 #[.slice none 0 0] w fun e w' => e = .returned (.bool true) ∧ Below w.heap.size w w' := by
  refine sim_enter Tryz.func120 ρ0 [.v (.slice none 0 0)] [] (by kernel_rfl) rfl ?_
  have hR := Rel.start [] w ρ0
  refine sim_run 10 [] (hR.cast (by kernel_rfl)) (by kernel_rfl) trivial (fun ρ5400 w5400 hm5400 hR5400 => ?_)
  refine sim_unroll 2 (by kernel_rfl) ?_
  refine sim_run 15 [] (hR5400.cast (by kernel_rfl)) (by kernel_rfl) trivial (fun ρ5401 w5401 hm5401 hR5401 => ?_)
  refine sim_ret (LB true) hR5401 (by kernel_rfl) (by kernel_rfl) ?_
  exact ⟨rfl, hR5401.toBelow⟩
  
set_option maxRecDepth 100000 in
theorem stillAssets_nil (x : Nat → Value) (b : Nat) (w : World) (h : Blk w b 56 (bkC x).toArray) (hx : x 12 = nilS) : Calls Tryz.prog 70 #[.pointer (some ⟨b, 0, none⟩)] w fun e w' => e = .returned (.bool true) ∧ Below w.heap.size w w' := by
  obtain ⟨ρ, e0, hR⟩ := blk_open h false [] (by simp) (by kernel_rfl)
  have e : (bkC x).map LV.v = (.v (x 0) :: .v (x 1) :: .v (x 2) :: .v (x 3) :: .v (x 4) :: .v (x 5) :: .v (x 6) :: .v (x 7) :: .v (x 8) :: .v (x 9) :: .v (x 10) :: .v (x 11) :: .v (.slice none 0 0) :: .v (x 13) :: .v (x 14) :: .v (x 15) :: .v (x 16) :: .v (x 17) :: .v (x 18) :: .v (x 19) :: .v (x 20) :: .v (x 21) :: .v (x 22) :: .v (x 23) :: .v (x 24) :: .v (x 25) :: .v (x 26) :: .v (x 27) :: .v (x 28) :: .v (x 29) :: .v (x 30) :: .v (x 31) :: .v (x 32) :: .v (x 33) :: []) := by
    unfold bkC
    rw [hx]
    rfl
  rw [e] at hR
  clear e
  refine sim_enter Tryz.func70 ρ [.ptr 0 0] [⟨(.v (x 0) :: .v (x 1) :: .v (x 2) :: .v (x 3) :: .v (x 4) :: .v (x 5) :: .v (x 6) :: .v (x 7) :: .v (x 8) :: .v (x 9) :: .v (x 10) :: .v (x 11) :: .v (.slice none 0 0) :: .v (x 13) :: .v (x 14) :: .v (x 15) :: .v (x 16) :: .v (x 17) :: .v (x 18) :: .v (x 19) :: .v (x 20) :: .v (x 21) :: .v (x 22) :: .v (x 23) :: .v (x 24) :: .v (x 25) :: .v (x 26) :: .v (x 27) :: .v (x 28) :: .v (x 29) :: .v (x 30) :: .v (x 31) :: .v (x 32) :: .v (x 33) :: []), false⟩] (by kernel_rfl) (by simp only [denL, LV.den, Nm.at_, e0]) ?_
  refine sim_run 10 [] (hR.cast (by kernel_rfl)) (by kernel_rfl) trivial (fun ρ6100 w6100 hm6100 hR6100 => ?_)
  refine sim_unroll 2 (by kernel_rfl) ?_
  refine sim_run 18 [] (hR6100.cast (by kernel_rfl)) (by kernel_rfl) trivial (fun ρ6101 w6101 hm6101 hR6101 => ?_)
  refine sim_ret (LB true) hR6101 (by kernel_rfl) (by kernel_rfl) ?_
  exact ⟨rfl, hR6101.toBelow⟩
  
set_option maxRecDepth 100000 in
theorem putAssets_nil (x : Nat → Value) (b : Nat) (w : World) (h : Blk w b 56 (bkC x).toArray) (hx : x 12 = nilS) : Calls Tryz.prog 91 #[.pointer (some ⟨b, 0, none⟩)] w fun e w' => e = .returned (.tuple #[]) ∧ Below w.heap.size w w' := by
  obtain ⟨ρ, e0, hR⟩ := blk_open h false [] (by simp) (by kernel_rfl)
  have e : (bkC x).map LV.v = (.v (x 0) :: .v (x 1) :: .v (x 2) :: .v (x 3) :: .v (x 4) :: .v (x 5) :: .v (x 6) :: .v (x 7) :: .v (x 8) :: .v (x 9) :: .v (x 10) :: .v (x 11) :: .v (.slice none 0 0) :: .v (x 13) :: .v (x 14) :: .v (x 15) :: .v (x 16) :: .v (x 17) :: .v (x 18) :: .v (x 19) :: .v (x 20) :: .v (x 21) :: .v (x 22) :: .v (x 23) :: .v (x 24) :: .v (x 25) :: .v (x 26) :: .v (x 27) :: .v (x 28) :: .v (x 29) :: .v (x 30) :: .v (x 31) :: .v (x 32) :: .v (x 33) :: []) := by
    unfold bkC
    rw [hx]
    rfl
  rw [e] at hR
  clear e
  refine sim_enter Tryz.func91 ρ [.ptr 0 0] [⟨(.v (x 0) :: .v (x 1) :: .v (x 2) :: .v (x 3) :: .v (x 4) :: .v (x 5) :: .v (x 6) :: .v (x 7) :: .v (x 8) :: .v (x 9) :: .v (x 10) :: .v (x 11) :: .v (.slice none 0 0) :: .v (x 13) :: .v (x 14) :: .v (x 15) :: .v (x 16) :: .v (x 17) :: .v (x 18) :: .v (x 19) :: .v (x 20) :: .v (x 21) :: .v (x 22) :: .v (x 23) :: .v (x 24) :: .v (x 25) :: .v (x 26) :: .v (x 27) :: .v (x 28) :: .v (x 29) :: .v (x 30) :: .v (x 31) :: .v (x 32) :: .v (x 33) :: []), false⟩] (by kernel_rfl) (by simp only [denL, LV.den, Nm.at_, e0]) ?_
  refine sim_run 5 [] (hR.cast (by kernel_rfl)) (by kernel_rfl) trivial (fun ρ6200 w6200 hm6200 hR6200 => ?_)
  refine sim_unroll 2 (by kernel_rfl) ?_
  refine sim_run 14 [] (hR6200.cast (by kernel_rfl)) (by kernel_rfl) trivial (fun ρ6201 w6201 hm6201 hR6201 => ?_)
  refine sim_end (.tup []) hR6201 (by kernel_rfl) (by kernel_rfl) ?_
  exact ⟨rfl, hR6201.toBelow⟩
  
set_option maxRecDepth 100000 in
theorem growAssets_nil (x : Nat → Value) (b : Nat) (w : World) (h : Blk w b 56 (bkC x).toArray) (hx : x 12 = nilS) : Calls Tryz.prog 104 #[.pointer (some ⟨b, 0, none⟩)] w fun e w' => e = .returned (.slice none 0 0) ∧ Below w.heap.size w w' := by
  obtain ⟨ρ, e0, hR⟩ := blk_open h false [] (by simp) (by kernel_rfl)
  have e : (bkC x).map LV.v = (.v (x 0) :: .v (x 1) :: .v (x 2) :: .v (x 3) :: .v (x 4) :: .v (x 5) :: .v (x 6) :: .v (x 7) :: .v (x 8) :: .v (x 9) :: .v (x 10) :: .v (x 11) :: .v (.slice none 0 0) :: .v (x 13) :: .v (x 14) :: .v (x 15) :: .v (x 16) :: .v (x 17) :: .v (x 18) :: .v (x 19) :: .v (x 20) :: .v (x 21) :: .v (x 22) :: .v (x 23) :: .v (x 24) :: .v (x 25) :: .v (x 26) :: .v (x 27) :: .v (x 28) :: .v (x 29) :: .v (x 30) :: .v (x 31) :: .v (x 32) :: .v (x 33) :: []) := by
    unfold bkC
    rw [hx]
    rfl
  rw [e] at hR
  clear e
  refine sim_enter Tryz.func104 ρ [.ptr 0 0] [⟨(.v (x 0) :: .v (x 1) :: .v (x 2) :: .v (x 3) :: .v (x 4) :: .v (x 5) :: .v (x 6) :: .v (x 7) :: .v (x 8) :: .v (x 9) :: .v (x 10) :: .v (x 11) :: .v (.slice none 0 0) :: .v (x 13) :: .v (x 14) :: .v (x 15) :: .v (x 16) :: .v (x 17) :: .v (x 18) :: .v (x 19) :: .v (x 20) :: .v (x 21) :: .v (x 22) :: .v (x 23) :: .v (x 24) :: .v (x 25) :: .v (x 26) :: .v (x 27) :: .v (x 28) :: .v (x 29) :: .v (x 30) :: .v (x 31) :: .v (x 32) :: .v (x 33) :: []), false⟩] (by kernel_rfl) (by simp only [denL, LV.den, Nm.at_, e0]) ?_
  refine sim_run 14 [] (hR.cast (by kernel_rfl)) (by kernel_rfl) trivial (fun ρ6300 w6300 hm6300 hR6300 => ?_)
  refine sim_unroll 2 (by kernel_rfl) ?_
  refine sim_run 19 [] (hR6300.cast (by kernel_rfl)) (by kernel_rfl) trivial (fun ρ6301 w6301 hm6301 hR6301 => ?_)
  refine sim_ret (.v (Value.slice none 0 0)) hR6301 (by kernel_rfl) (by kernel_rfl) ?_
  exact ⟨rfl, hR6301.toBelow⟩
  
set_option maxRecDepth 100000 in
theorem markedAssets_nil (w : World) : Calls Tryz.prog 121 #[.slice none 0 0] w fun e w' => e = .returned (.bool true) ∧ Below w.heap.size w w' := by
  refine sim_enter Tryz.func121 ρ0 [.v (.slice none 0 0)] [] (by kernel_rfl) rfl ?_
  have hR := Rel.start [] w ρ0
  refine sim_run 10 [] (hR.cast (by kernel_rfl)) (by kernel_rfl) trivial (fun ρ6400 w6400 hm6400 hR6400 => ?_)
  refine sim_unroll 2 (by kernel_rfl) ?_
  refine sim_run 15 [] (hR6400.cast (by kernel_rfl)) (by kernel_rfl) trivial (fun ρ6401 w6401 hm6401 hR6401 => ?_)
  refine sim_ret (LB true) hR6401 (by kernel_rfl) (by kernel_rfl) ?_
  exact ⟨rfl, hR6401.toBelow⟩
  
set_option maxRecDepth 100000 in
theorem stillInsts_nil (x : Nat → Value) (b : Nat) (w : World) (h : Blk w b 56 (bkC x).toArray) (hx : x 14 = nilS) : Calls Tryz.prog 71 #[.pointer (some ⟨b, 0, none⟩)] w fun e w' => e = .returned (.bool true) ∧ Below w.heap.size w w' := by
  obtain ⟨ρ, e0, hR⟩ := blk_open h false [] (by simp) (by kernel_rfl)
  have e : (bkC x).map LV.v = (.v (x 0) :: .v (x 1) :: .v (x 2) :: .v (x 3) :: .v (x 4) :: .v (x 5) :: .v (x 6) :: .v (x 7) :: .v (x 8) :: .v (x 9) :: .v (x 10) :: .v (x 11) :: .v (x 12) :: .v (x 13) :: .v (.slice none 0 0) :: .v (x 15) :: .v (x 16) :: .v (x 17) :: .v (x 18) :: .v (x 19) :: .v (x 20) :: .v (x 21) :: .v (x 22) :: .v (x 23) :: .v (x 24) :: .v (x 25) :: .v (x 26) :: .v (x 27) :: .v (x 28) :: .v (x 29) :: .v (x 30) :: .v (x 31) :: .v (x 32) :: .v (x 33) :: []) := by
    unfold bkC
    rw [hx]
    rfl
  rw [e] at hR
  clear e
  refine sim_enter Tryz.func71 ρ [.ptr 0 0] [⟨(.v (x 0) :: .v (x 1) :: .v (x 2) :: .v (x 3) :: .v (x 4) :: .v (x 5) :: .v (x 6) :: .v (x 7) :: .v (x 8) :: .v (x 9) :: .v (x 10) :: .v (x 11) :: .v (x 12) :: .v (x 13) :: .v (.slice none 0 0) :: .v (x 15) :: .v (x 16) :: .v (x 17) :: .v (x 18) :: .v (x 19) :: .v (x 20) :: .v (x 21) :: .v (x 22) :: .v (x 23) :: .v (x 24) :: .v (x 25) :: .v (x 26) :: .v (x 27) :: .v (x 28) :: .v (x 29) :: .v (x 30) :: .v (x 31) :: .v (x 32) :: .v (x 33) :: []), false⟩] (by kernel_rfl) (by simp only [denL, LV.den, Nm.at_, e0]) ?_
  refine sim_run 10 [] (hR.cast (by kernel_rfl)) (by kernel_rfl) trivial (fun ρ7100 w7100 hm7100 hR7100 => ?_)
  refine sim_unroll 2 (by kernel_rfl) ?_
  refine sim_run 18 [] (hR7100.cast (by kernel_rfl)) (by kernel_rfl) trivial (fun ρ7101 w7101 hm7101 hR7101 => ?_)
  refine sim_ret (LB true) hR7101 (by kernel_rfl) (by kernel_rfl) ?_
  exact ⟨rfl, hR7101.toBelow⟩
  
set_option maxRecDepth 100000 in
theorem putInsts_nil (x : Nat → Value) (b : Nat) (w : World) (h : Blk w b 56 (bkC x).toArray) (hx : x 14 = nilS) : Calls Tryz.prog 92 #[.pointer (some ⟨b, 0, none⟩)] w fun e w' => e = .returned (.tuple #[]) ∧ Below w.heap.size w w' := by
  obtain ⟨ρ, e0, hR⟩ := blk_open h false [] (by simp) (by kernel_rfl)
  have e : (bkC x).map LV.v = (.v (x 0) :: .v (x 1) :: .v (x 2) :: .v (x 3) :: .v (x 4) :: .v (x 5) :: .v (x 6) :: .v (x 7) :: .v (x 8) :: .v (x 9) :: .v (x 10) :: .v (x 11) :: .v (x 12) :: .v (x 13) :: .v (.slice none 0 0) :: .v (x 15) :: .v (x 16) :: .v (x 17) :: .v (x 18) :: .v (x 19) :: .v (x 20) :: .v (x 21) :: .v (x 22) :: .v (x 23) :: .v (x 24) :: .v (x 25) :: .v (x 26) :: .v (x 27) :: .v (x 28) :: .v (x 29) :: .v (x 30) :: .v (x 31) :: .v (x 32) :: .v (x 33) :: []) := by
    unfold bkC
    rw [hx]
    rfl
  rw [e] at hR
  clear e
  refine sim_enter Tryz.func92 ρ [.ptr 0 0] [⟨(.v (x 0) :: .v (x 1) :: .v (x 2) :: .v (x 3) :: .v (x 4) :: .v (x 5) :: .v (x 6) :: .v (x 7) :: .v (x 8) :: .v (x 9) :: .v (x 10) :: .v (x 11) :: .v (x 12) :: .v (x 13) :: .v (.slice none 0 0) :: .v (x 15) :: .v (x 16) :: .v (x 17) :: .v (x 18) :: .v (x 19) :: .v (x 20) :: .v (x 21) :: .v (x 22) :: .v (x 23) :: .v (x 24) :: .v (x 25) :: .v (x 26) :: .v (x 27) :: .v (x 28) :: .v (x 29) :: .v (x 30) :: .v (x 31) :: .v (x 32) :: .v (x 33) :: []), false⟩] (by kernel_rfl) (by simp only [denL, LV.den, Nm.at_, e0]) ?_
  refine sim_run 5 [] (hR.cast (by kernel_rfl)) (by kernel_rfl) trivial (fun ρ7200 w7200 hm7200 hR7200 => ?_)
  refine sim_unroll 2 (by kernel_rfl) ?_
  refine sim_run 14 [] (hR7200.cast (by kernel_rfl)) (by kernel_rfl) trivial (fun ρ7201 w7201 hm7201 hR7201 => ?_)
  refine sim_end (.tup []) hR7201 (by kernel_rfl) (by kernel_rfl) ?_
  exact ⟨rfl, hR7201.toBelow⟩
  
set_option maxRecDepth 100000 in
theorem growInsts_nil (x : Nat → Value) (b : Nat) (w : World) (h : Blk w b 56 (bkC x).toArray) (hx : x 14 = nilS) : Calls Tryz.prog 105 #[.pointer (some ⟨b, 0, none⟩)] w fun e w' => e = .returned (.slice none 0 0) ∧ Below w.heap.size w w' := by
  obtain ⟨ρ, e0, hR⟩ := blk_open h false [] (by simp) (by kernel_rfl)
  have e : (bkC x).map LV.v = (.v (x 0) :: .v (x 1) :: .v (x 2) :: .v (x 3) :: .v (x 4) :: .v (x 5) :: .v (x 6) :: .v (x 7) :: .v (x 8) :: .v (x 9) :: .v (x 10) :: .v (x 11) :: .v (x 12) :: .v (x 13) :: .v (.slice none 0 0) :: .v (x 15) :: .v (x 16) :: .v (x 17) :: .v (x 18) :: .v (x 19) :: .v (x 20) :: .v (x 21) :: .v (x 22) :: .v (x 23) :: .v (x 24) :: .v (x 25) :: .v (x 26) :: .v (x 27) :: .v (x 28) :: .v (x 29) :: .v (x 30) :: .v (x 31) :: .v (x 32) :: .v (x 33) :: []) := by
    unfold bkC
    rw [hx]
    rfl
  rw [e] at hR
  clear e
  refine sim_enter Tryz.func105 ρ [.ptr 0 0] [⟨(.v (x 0) :: .v (x 1) :: .v (x 2) :: .v (x 3) :: .v (x 4) :: .v (x 5) :: .v (x 6) :: .v (x 7) :: .v (x 8) :: .v (x 9) :: .v (x 10) :: .v (x 11) :: .v (x 12) :: .v (x 13) :: .v (.slice none 0 0) :: .v (x 15) :: .v (x 16) :: .v (x 17) :: .v (x 18) :: .v (x 19) :: .v (x 20) :: .v (x 21) :: .v (x 22) :: .v (x 23) :: .v (x 24) :: .v (x 25) :: .v (x 26) :: .v (x 27) :: .v (x 28) :: .v (x 29) :: .v (x 30) :: .v (x 31) :: .v (x 32) :: .v (x 33) :: []), false⟩] (by kernel_rfl) (by simp only [denL, LV.den, Nm.at_, e0]) ?_
  refine sim_run 14 [] (hR.cast (by kernel_rfl)) (by kernel_rfl) trivial (fun ρ7300 w7300 hm7300 hR7300 => ?_)
  refine sim_unroll 2 (by kernel_rfl) ?_
  refine sim_run 19 [] (hR7300.cast (by kernel_rfl)) (by kernel_rfl) trivial (fun ρ7301 w7301 hm7301 hR7301 => ?_)
  refine sim_ret (.v (Value.slice none 0 0)) hR7301 (by kernel_rfl) (by kernel_rfl) ?_
  exact ⟨rfl, hR7301.toBelow⟩
  
set_option maxRecDepth 100000 in
theorem markedInsts_nil (w : World) : Calls Tryz.prog 122 #[.slice none 0 0] w fun e w' => e = .returned (.bool true) ∧ Below w.heap.size w w' := by
  refine sim_enter Tryz.func122 ρ0 [.v (.slice none 0 0)] [] (by kernel_rfl) rfl ?_
  have hR := Rel.start [] w ρ0
  refine sim_run 10 [] (hR.cast (by kernel_rfl)) (by kernel_rfl) trivial (fun ρ7400 w7400 hm7400 hR7400 => ?_)
  refine sim_unroll 2 (by kernel_rfl) ?_
  refine sim_run 15 [] (hR7400.cast (by kernel_rfl)) (by kernel_rfl) trivial (fun ρ7401 w7401 hm7401 hR7401 => ?_)
  refine sim_ret (LB true) hR7401 (by kernel_rfl) (by kernel_rfl) ?_
  exact ⟨rfl, hR7401.toBelow⟩
  
set_option maxRecDepth 100000 in
theorem stillPairs_nil (x : Nat → Value) (b : Nat) (w : World) (h : Blk w b 56 (bkC x).toArray) (hx : x 16 = nilS) : Calls Tryz.prog 72 #[.pointer (some ⟨b, 0, none⟩)] w fun e w' => e = .returned (.bool true) ∧ Below w.heap.size w w' := by
  obtain ⟨ρ, e0, hR⟩ := blk_open h false [] (by simp) (by kernel_rfl)
  have e : (bkC x).map LV.v = (.v (x 0) :: .v (x 1) :: .v (x 2) :: .v (x 3) :: .v (x 4) :: .v (x 5) :: .v (x 6) :: .v (x 7) :: .v (x 8) :: .v (x 9) :: .v (x 10) :: .v (x 11) :: .v (x 12) :: .v (x 13) :: .v (x 14) :: .v (x 15) :: .v (.slice none 0 0) :: .v (x 17) :: .v (x 18) :: .v (x 19) :: .v (x 20) :: .v (x 21) :: .v (x 22) :: .v (x 23) :: .v (x 24) :: .v (x 25) :: .v (x 26) :: .v (x 27) :: .v (x 28) :: .v (x 29) :: .v (x 30) :: .v (x 31) :: .v (x 32) :: .v (x 33) :: []) := by
    unfold bkC
    rw [hx]
    rfl
  rw [e] at hR
  clear e
  refine sim_enter Tryz.func72 ρ [.ptr 0 0] [⟨(.v (x 0) :: .v (x 1) :: .v (x 2) :: .v (x 3) :: .v (x 4) :: .v (x 5) :: .v (x 6) :: .v (x 7) :: .v (x 8) :: .v (x 9) :: .v (x 10) :: .v (x 11) :: .v (x 12) :: .v (x 13) :: .v (x 14) :: .v (x 15) :: .v (.slice none 0 0) :: .v (x 17) :: .v (x 18) :: .v (x 19) :: .v (x 20) :: .v (x 21) :: .v (x 22) :: .v (x 23) :: .v (x 24) :: .v (x 25) :: .v (x 26) :: .v (x 27) :: .v (x 28) :: .v (x 29) :: .v (x 30) :: .v (x 31) :: .v (x 32) :: .v (x 33) :: []), false⟩] (by kernel_rfl) (by simp only [denL, LV.den, Nm.at_, e0]) ?_
  refine sim_run 10 [] (hR.cast (by kernel_rfl)) (by kernel_rfl) trivial (fun ρ8100 w8100 hm8100 hR8100 => ?_)
  refine sim_unroll 2 (by kernel_rfl) ?_
  refine sim_run 18 [] (hR8100.cast (by kernel_rfl)) (by kernel_rfl) trivial (fun ρ8101 w8101 hm8101 hR8101 => ?_)
  refine sim_ret (LB true) hR8101 (by kernel_rfl) (by kernel_rfl) ?_
  exact ⟨rfl, hR8101.toBelow⟩
  
set_option maxRecDepth 100000 in
theorem putPairs_nil (x : Nat → Value) (b : Nat) (w : World) (h : Blk w b 56 (bkC x).toArray) (hx : x 16 = nilS) : Calls Tryz.prog 93 #[.pointer (some ⟨b, 0, none⟩)] w fun e w' => e = .returned (.tuple #[]) ∧ Below w.heap.size w w' := by
  obtain ⟨ρ, e0, hR⟩ := blk_open h false [] (by simp) (by kernel_rfl)
  have e : (bkC x).map LV.v = (.v (x 0) :: .v (x 1) :: .v (x 2) :: .v (x 3) :: .v (x 4) :: .v (x 5) :: .v (x 6) :: .v (x 7) :: .v (x 8) :: .v (x 9) :: .v (x 10) :: .v (x 11) :: .v (x 12) :: .v (x 13) :: .v (x 14) :: .v (x 15) :: .v (.slice none 0 0) :: .v (x 17) :: .v (x 18) :: .v (x 19) :: .v (x 20) :: .v (x 21) :: .v (x 22) :: .v (x 23) :: .v (x 24) :: .v (x 25) :: .v (x 26) :: .v (x 27) :: .v (x 28) :: .v (x 29) :: .v (x 30) :: .v (x 31) :: .v (x 32) :: .v (x 33) :: []) := by
    unfold bkC
    rw [hx]
    rfl
  rw [e] at hR
  clear e
  refine sim_enter Tryz.func93 ρ [.ptr 0 0] [⟨(.v (x 0) :: .v (x 1) :: .v (x 2) :: .v (x 3) :: .v (x 4) :: .v (x 5) :: .v (x 6) :: .v (x 7) :: .v (x 8) :: .v (x 9) :: .v (x 10) :: .v (x 11) :: .v (x 12) :: .v (x 13) :: .v (x 14) :: .v (x 15) :: .v (.slice none 0 0) :: .v (x 17) :: .v (x 18) :: .v (x 19) :: .v (x 20) :: .v (x 21) :: .v (x 22) :: .v (x 23) :: .v (x 24) :: .v (x 25) :: .v (x 26) :: .v (x 27) :: .v (x 28) :: .v (x 29) :: .v (x 30) :: .v (x 31) :: .v (x 32) :: .v (x 33) :: []), false⟩] (by kernel_rfl) (by simp only [denL, LV.den, Nm.at_, e0]) ?_
  refine sim_run 5 [] (hR.cast (by kernel_rfl)) (by kernel_rfl) trivial (fun ρ8200 w8200 hm8200 hR8200 => ?_)
  refine sim_unroll 2 (by kernel_rfl) ?_
  refine sim_run 14 [] (hR8200.cast (by kernel_rfl)) (by kernel_rfl) trivial (fun ρ8201 w8201 hm8201 hR8201 => ?_)
  refine sim_end (.tup []) hR8201 (by kernel_rfl) (by kernel_rfl) ?_
  exact ⟨rfl, hR8201.toBelow⟩
  
set_option maxRecDepth 100000 in
theorem growPairs_nil (x : Nat → Value) (b : Nat) (w : World) (h : Blk w b 56 (bkC x).toArray) (hx : x 16 = nilS) : Calls Tryz.prog 106 #[.pointer (some ⟨b, 0, none⟩)] w fun e w' => e = .returned (.slice none 0 0) ∧ Below w.heap.size w w' := by
  obtain ⟨ρ, e0, hR⟩ := blk_open h false [] (by simp) (by kernel_rfl)
  have e : (bkC x).map LV.v = (.v (x 0) :: .v (x 1) :: .v (x 2) :: .v (x 3) :: .v (x 4) :: .v (x 5) :: .v (x 6) :: .v (x 7) :: .v (x 8) :: .v (x 9) :: .v (x 10) :: .v (x 11) :: .v (x 12) :: .v (x 13) :: .v (x 14) :: .v (x 15) :: .v (.slice none 0 0) :: .v (x 17) :: .v (x 18) :: .v (x 19) :: .v (x 20) :: .v (x 21) :: .v (x 22) :: .v (x 23) :: .v (x 24) :: .v (x 25) :: .v (x 26) :: .v (x 27) :: .v (x 28) :: .v (x 29) :: .v (x 30) :: .v (x 31) :: .v (x 32) :: .v (x 33) :: []) := by
    unfold bkC
    rw [hx]
    rfl
  rw [e] at hR
  clear e
  refine sim_enter Tryz.func106 ρ [.ptr 0 0] [⟨(.v (x 0) :: .v (x 1) :: .v (x 2) :: .v (x 3) :: .v (x 4) :: .v (x 5) :: .v (x 6) :: .v (x 7) :: .v (x 8) :: .v (x 9) :: .v (x 10) :: .v (x 11) :: .v (x 12) :: .v (x 13) :: .v (x 14) :: .v (x 15) :: .v (.slice none 0 0) :: .v (x 17) :: .v (x 18) :: .v (x 19) :: .v (x 20) :: .v (x 21) :: .v (x 22) :: .v (x 23) :: .v (x 24) :: .v (x 25) :: .v (x 26) :: .v (x 27) :: .v (x 28) :: .v (x 29) :: .v (x 30) :: .v (x 31) :: .v (x 32) :: .v (x 33) :: []), false⟩] (by kernel_rfl) (by simp only [denL, LV.den, Nm.at_, e0]) ?_
  refine sim_run 14 [] (hR.cast (by kernel_rfl)) (by kernel_rfl) trivial (fun ρ8300 w8300 hm8300 hR8300 => ?_)
  refine sim_unroll 2 (by kernel_rfl) ?_
  refine sim_run 19 [] (hR8300.cast (by kernel_rfl)) (by kernel_rfl) trivial (fun ρ8301 w8301 hm8301 hR8301 => ?_)
  refine sim_ret (.v (Value.slice none 0 0)) hR8301 (by kernel_rfl) (by kernel_rfl) ?_
  exact ⟨rfl, hR8301.toBelow⟩
  
set_option maxRecDepth 100000 in
theorem markedPairs_nil (w : World) : Calls Tryz.prog 123 #[.slice none 0 0] w fun e w' => e = .returned (.bool true) ∧ Below w.heap.size w w' := by
  refine sim_enter Tryz.func123 ρ0 [.v (.slice none 0 0)] [] (by kernel_rfl) rfl ?_
  have hR := Rel.start [] w ρ0
  refine sim_run 10 [] (hR.cast (by kernel_rfl)) (by kernel_rfl) trivial (fun ρ8400 w8400 hm8400 hR8400 => ?_)
  refine sim_unroll 2 (by kernel_rfl) ?_
  refine sim_run 15 [] (hR8400.cast (by kernel_rfl)) (by kernel_rfl) trivial (fun ρ8401 w8401 hm8401 hR8401 => ?_)
  refine sim_ret (LB true) hR8401 (by kernel_rfl) (by kernel_rfl) ?_
  exact ⟨rfl, hR8401.toBelow⟩
  
set_option maxRecDepth 100000 in
theorem stillAllegs_nil (x : Nat → Value) (b : Nat) (w : World) (h : Blk w b 56 (bkC x).toArray) (hx : x 18 = nilS) : Calls Tryz.prog 73 #[.pointer (some ⟨b, 0, none⟩)] w fun e w' => e = .returned (.bool true) ∧ Below w.heap.size w w' := by
  obtain ⟨ρ, e0, hR⟩ := blk_open h false [] (by simp) (by kernel_rfl)
  have e : (bkC x).map LV.v = (.v (x 0) :: .v (x 1) :: .v (x 2) :: .v (x 3) :: .v (x 4) :: .v (x 5) :: .v (x 6) :: .v (x 7) :: .v (x 8) :: .v (x 9) :: .v (x 10) :: .v (x 11) :: .v (x 12) :: .v (x 13) :: .v (x 14) :: .v (x 15) :: .v (x 16) :: .v (x 17) :: .v (.slice none 0 0) :: .v (x 19) :: .v (x 20) :: .v (x 21) :: .v (x 22) :: .v (x 23) :: .v (x 24) :: .v (x 25) :: .v (x 26) :: .v (x 27) :: .v (x 28) :: .v (x 29) :: .v (x 30) :: .v (x 31) :: .v (x 32) :: .v (x 33) :: []) := by
    unfold bkC
    rw [hx]
    rfl
  rw [e] at hR
  clear e
  refine sim_enter Tryz.func73 ρ [.ptr 0 0] [⟨(.v (x 0) :: .v (x 1) :: .v (x 2) :: .v (x 3) :: .v (x 4) :: .v (x 5) :: .v (x 6) :: .v (x 7) :: .v (x 8) :: .v (x 9) :: .v (x 10) :: .v (x 11) :: .v (x 12) :: .v (x 13) :: .v (x 14) :: .v (x 15) :: .v (x 16) :: .v (x 17) :: .v (.slice none 0 0) :: .v (x 19) :: .v (x 20) :: .v (x 21) :: .v (x 22) :: .v (x 23) :: .v (x 24) :: .v (x 25) :: .v (x 26) :: .v (x 27) :: .v (x 28) :: .v (x 29) :: .v (x 30) :: .v (x 31) :: .v (x 32) :: .v (x 33) :: []), false⟩] (by kernel_rfl) (by simp only [denL, LV.den, Nm.at_, e0]) ?_
  refine sim_run 10 [] (hR.cast (by kernel_rfl)) (by kernel_rfl) trivial (fun ρ9100 w9100 hm9100 hR9100 => ?_)
  refine sim_unroll 2 (by kernel_rfl) ?_
  refine sim_run 18 [] (hR9100.cast (by kernel_rfl)) (by kernel_rfl) trivial (fun ρ9101 w9101 hm9101 hR9101 => ?_)
  refine sim_ret (LB true) hR9101 (by kernel_rfl) (by kernel_rfl) ?_
  exact ⟨rfl, hR9101.toBelow⟩
  
set_option maxRecDepth 100000 in
theorem putAllegs_nil (x : Nat → Value) (b : Nat) (w : World) (h : Blk w b 56 (bkC x).toArray) (hx : x 18 = nilS) : Calls Tryz.prog 81 #[.pointer (some ⟨b, 0, none⟩)] w fun e w' => e = .returned (.tuple #[]) ∧ Below w.heap.size w w' := by
  obtain ⟨ρ, e0, hR⟩ := blk_open h false [] (by simp) (by kernel_rfl)
  have e : (bkC x).map LV.v = (.v (x 0) :: .v (x 1) :: .v (x 2) :: .v (x 3) :: .v (x 4) :: .v (x 5) :: .v (x 6) :: .v (x 7) :: .v (x 8) :: .v (x 9) :: .v (x 10) :: .v (x 11) :: .v (x 12) :: .v (x 13) :: .v (x 14) :: .v (x 15) :: .v (x 16) :: .v (x 17) :: .v (.slice none 0 0) :: .v (x 19) :: .v (x 20) :: .v (x 21) :: .v (x 22) :: .v (x 23) :: .v (x 24) :: .v (x 25) :: .v (x 26) :: .v (x 27) :: .v (x 28) :: .v (x 29) :: .v (x 30) :: .v (x 31) :: .v (x 32) :: .v (x 33) :: []) := by
    unfold bkC
    rw [hx]
    rfl
  rw [e] at hR
  clear e
  refine sim_enter Tryz.func81 ρ [.ptr 0 0] [⟨(.v (x 0) :: .v (x 1) :: .v (x 2) :: .v (x 3) :: .v (x 4) :: .v (x 5) :: .v (x 6) :: .v (x 7) :: .v (x 8) :: .v (x 9) :: .v (x 10) :: .v (x 11) :: .v (x 12) :: .v (x 13) :: .v (x 14) :: .v (x 15) :: .v (x 16) :: .v (x 17) :: .v (.slice none 0 0) :: .v (x 19) :: .v (x 20) :: .v (x 21) :: .v (x 22) :: .v (x 23) :: .v (x 24) :: .v (x 25) :: .v (x 26) :: .v (x 27) :: .v (x 28) :: .v (x 29) :: .v (x 30) :: .v (x 31) :: .v (x 32) :: .v (x 33) :: []), false⟩] (by kernel_rfl) (by simp only [denL, LV.den, Nm.at_, e0]) ?_
  refine sim_run 5 [] (hR.cast (by kernel_rfl)) (by kernel_rfl) trivial (fun ρ9200 w9200 hm9200 hR9200 => ?_)
  refine sim_unroll 2 (by kernel_rfl) ?_
  refine sim_run 14 [] (hR9200.cast (by kernel_rfl)) (by kernel_rfl) trivial (fun ρ9201 w9201 hm9201 hR9201 => ?_)
  refine sim_end (.tup []) hR9201 (by kernel_rfl) (by kernel_rfl) ?_
  exact ⟨rfl, hR9201.toBelow⟩
  
set_option maxRecDepth 100000 in
theorem growAllegs_nil (x : Nat → Value) (b : Nat) (w : World) (h : Blk w b 56 (bkC x).toArray) (hx : x 18 = nilS) : Calls Tryz.prog 107 #[.pointer (some ⟨b, 0, none⟩)] w fun e w' => e = .returned (.slice none 0 0) ∧ Below w.heap.size w w' := by
  obtain ⟨ρ, e0, hR⟩ := blk_open h false [] (by simp) (by kernel_rfl)
  have e : (bkC x).map LV.v = (.v (x 0) :: .v (x 1) :: .v (x 2) :: .v (x 3) :: .v (x 4) :: .v (x 5) :: .v (x 6) :: .v (x 7) :: .v (x 8) :: .v (x 9) :: .v (x 10) :: .v (x 11) :: .v (x 12) :: .v (x 13) :: .v (x 14) :: .v (x 15) :: .v (x 16) :: .v (x 17) :: .v (.slice none 0 0) :: .v (x 19) :: .v (x 20) :: .v (x 21) :: .v (x 22) :: .v (x 23) :: .v (x 24) :: .v (x 25) :: .v (x 26) :: .v (x 27) :: .v (x 28) :: .v (x 29) :: .v (x 30) :: .v (x 31) :: .v (x 32) :: .v (x 33) :: []) := by
    unfold bkC
    rw [hx]
    rfl
  rw [e] at hR
  clear e
  refine sim_enter Tryz.func107 ρ [.ptr 0 0] [⟨(.v (x 0) :: .v (x 1) :: .v (x 2) :: .v (x 3) :: .v (x 4) :: .v (x 5) :: .v (x 6) :: .v (x 7) :: .v (x 8) :: .v (x 9) :: .v (x 10) :: .v (x 11) :: .v (x 12) :: .v (x 13) :: .v (x 14) :: .v (x 15) :: .v (x 16) :: .v (x 17) :: .v (.slice none 0 0) :: .v (x 19) :: .v (x 20) :: .v (x 21) :: .v (x 22) :: .v (x 23) :: .v (x 24) :: .v (x 25) :: .v (x 26) :: .v (x 27) :: .v (x 28) :: .v (x 29) :: .v (x 30) :: .v (x 31) :: .v (x 32) :: .v (x 33) :: []), false⟩] (by kernel_rfl) (by simp only [denL, LV.den, Nm.at_, e0]) ?_
  refine sim_run 14 [] (hR.cast (by kernel_rfl)) (by kernel_rfl) trivial (fun ρ9300 w9300 hm9300 hR9300 => ?_)
  refine sim_unroll 2 (by kernel_rfl) ?_
  refine sim_run 19 [] (hR9300.cast (by kernel_rfl)) (by kernel_rfl) trivial (fun ρ9301 w9301 hm9301 hR9301 => ?_)
  refine sim_ret (.v (Value.slice none 0 0)) hR9301 (by kernel_rfl) (by kernel_rfl) ?_
  exact ⟨rfl, hR9301.toBelow⟩
  
set_option maxRecDepth 100000 in
theorem markedAllegs_nil (w : World) : Calls Tryz.prog 124 #[.slice none 0 0] w fun e w' => e = .returned (.bool true) ∧ Below w.heap.size w w' := by
  refine sim_enter Tryz.func124 ρ0 [.v (.slice none 0 0)] [] (by kernel_rfl) rfl ?_
  have hR := Rel.start [] w ρ0
  refine sim_run 10 [] (hR.cast (by kernel_rfl)) (by kernel_rfl) trivial (fun ρ9400 w9400 hm9400 hR9400 => ?_)
  refine sim_unroll 2 (by kernel_rfl) ?_
  refine sim_run 15 [] (hR9400.cast (by kernel_rfl)) (by kernel_rfl) trivial (fun ρ9401 w9401 hm9401 hR9401 => ?_)
  refine sim_ret (LB true) hR9401 (by kernel_rfl) (by kernel_rfl) ?_
  exact ⟨rfl, hR9401.toBelow⟩
  
set_option maxRecDepth 100000 in
theorem stillLinks_nil (x : Nat → Value) (b : Nat) (w : World) (h : Blk w b 56 (bkC x).toArray) (hx : x 20 = nilS) : Calls Tryz.prog 74 #[.pointer (some ⟨b, 0, none⟩)] w fun e w' => e = .returned (.bool true) ∧ Below w.heap.size w w' := by
  obtain ⟨ρ, e0, hR⟩ := blk_open h false [] (by simp) (by kernel_rfl)
  have e : (bkC x).map LV.v = (.v (x 0) :: .v (x 1) :: .v (x 2) :: .v (x 3) :: .v (x 4) :: .v (x 5) :: .v (x 6) :: .v (x 7) :: .v (x 8) :: .v (x 9) :: .v (x 10) :: .v (x 11) :: .v (x 12) :: .v (x 13) :: .v (x 14) :: .v (x 15) :: .v (x 16) :: .v (x 17) :: .v (x 18) :: .v (x 19) :: .v (.slice none 0 0) :: .v (x 21) :: .v (x 22) :: .v (x 23) :: .v (x 24) :: .v (x 25) :: .v (x 26) :: .v (x 27) :: .v (x 28) :: .v (x 29) :: .v (x 30) :: .v (x 31) :: .v (x 32) :: .v (x 33) :: []) := by
    unfold bkC
    rw [hx]
    rfl
  rw [e] at hR
  clear e
  refine sim_enter Tryz.func74 ρ [.ptr 0 0] [⟨(.v (x 0) :: .v (x 1) :: .v (x 2) :: .v (x 3) :: .v (x 4) :: .v (x 5) :: .v (x 6) :: .v (x 7) :: .v (x 8) :: .v (x 9) :: .v (x 10) :: .v (x 11) :: .v (x 12) :: .v (x 13) :: .v (x 14) :: .v (x 15) :: .v (x 16) :: .v (x 17) :: .v (x 18) :: .v (x 19) :: .v (.slice none 0 0) :: .v (x 21) :: .v (x 22) :: .v (x 23) :: .v (x 24) :: .v (x 25) :: .v (x 26) :: .v (x 27) :: .v (x 28) :: .v (x 29) :: .v (x 30) :: .v (x 31) :: .v (x 32) :: .v (x 33) :: []), false⟩] (by kernel_rfl) (by simp only [denL, LV.den, Nm.at_, e0]) ?_
  refine sim_run 10 [] (hR.cast (by kernel_rfl)) (by kernel_rfl) trivial (fun ρ10100 w10100 hm10100 hR10100 => ?_)
  refine sim_unroll 2 (by kernel_rfl) ?_
  refine sim_run 18 [] (hR10100.cast (by kernel_rfl)) (by kernel_rfl) trivial (fun ρ10101 w10101 hm10101 hR10101 => ?_)
  refine sim_ret (LB true) hR10101 (by kernel_rfl) (by kernel_rfl) ?_
  exact ⟨rfl, hR10101.toBelow⟩
  
set_option maxRecDepth 100000 in
theorem putLinks_nil (x : Nat → Value) (b : Nat) (w : World) (h : Blk w b 56 (bkC x).toArray) (hx : x 20 = nilS) : Calls Tryz.prog 94 #[.pointer (some ⟨b, 0, none⟩)] w fun e w' => e = .returned (.tuple #[]) ∧ Below w.heap.size w w' := by
  obtain ⟨ρ, e0, hR⟩ := blk_open h false [] (by simp) (by kernel_rfl)
  have e : (bkC x).map LV.v = (.v (x 0) :: .v (x 1) :: .v (x 2) :: .v (x 3) :: .v (x 4) :: .v (x 5) :: .v (x 6) :: .v (x 7) :: .v (x 8) :: .v (x 9) :: .v (x 10) :: .v (x 11) :: .v (x 12) :: .v (x 13) :: .v (x 14) :: .v (x 15) :: .v (x 16) :: .v (x 17) :: .v (x 18) :: .v (x 19) :: .v (.slice none 0 0) :: .v (x 21) :: .v (x 22) :: .v (x 23) :: .v (x 24) :: .v (x 25) :: .v (x 26) :: .v (x 27) :: .v (x 28) :: .v (x 29) :: .v (x 30) :: .v (x 31) :: .v (x 32) :: .v (x 33) :: []) := by
    unfold bkC
    rw [hx]
    rfl
  rw [e] at hR
  clear e
  refine sim_enter Tryz.func94 ρ [.ptr 0 0] [⟨(.v (x 0) :: .v (x 1) :: .v (x 2) :: .v (x 3) :: .v (x 4) :: .v (x 5) :: .v (x 6) :: .v (x 7) :: .v (x 8) :: .v (x 9) :: .v (x 10) :: .v (x 11) :: .v (x 12) :: .v (x 13) :: .v (x 14) :: .v (x 15) :: .v (x 16) :: .v (x 17) :: .v (x 18) :: .v (x 19) :: .v (.slice none 0 0) :: .v (x 21) :: .v (x 22) :: .v (x 23) :: .v (x 24) :: .v (x 25) :: .v (x 26) :: .v (x 27) :: .v (x 28) :: .v (x 29) :: .v (x 30) :: .v (x 31) :: .v (x 32) :: .v (x 33) :: []), false⟩] (by kernel_rfl) (by simp only [denL, LV.den, Nm.at_, e0]) ?_
  refine sim_run 5 [] (hR.cast (by kernel_rfl)) (by kernel_rfl) trivial (fun ρ10200 w10200 hm10200 hR10200 => ?_)
  refine sim_unroll 2 (by kernel_rfl) ?_
  refine sim_run 14 [] (hR10200.cast (by kernel_rfl)) (by kernel_rfl) trivial (fun ρ10201 w10201 hm10201 hR10201 => ?_)
  refine sim_end (.tup []) hR10201 (by kernel_rfl) (by kernel_rfl) ?_
  exact ⟨rfl, hR10201.toBelow⟩
  
set_option maxRecDepth 100000 in
theorem growLinks_nil (x : Nat → Value) (b : Nat) (w : World) (h : Blk w b 56 (bkC x).toArray) (hx : x 20 = nilS) : Calls Tryz.prog 108 #[.pointer (some ⟨b, 0, none⟩)] w fun e w' => e = .returned (.slice none 0 0) ∧ Below w.heap.size w w' := by
  obtain ⟨ρ, e0, hR⟩ := blk_open h false [] (by simp) (by kernel_rfl)
  have e : (bkC x).map LV.v = (.v (x 0) :: .v (x 1) :: .v (x 2) :: .v (x 3) :: .v (x 4) :: .v (x 5) :: .v (x 6) :: .v (x 7) :: .v (x 8) :: .v (x 9) :: .v (x 10) :: .v (x 11) :: .v (x 12) :: .v (x 13) :: .v (x 14) :: .v (x 15) :: .v (x 16) :: .v (x 17) :: .v (x 18) :: .v (x 19) :: .v (.slice none 0 0) :: .v (x 21) :: .v (x 22) :: .v (x 23) :: .v (x 24) :: .v (x 25) :: .v (x 26) :: .v (x 27) :: .v (x 28) :: .v (x 29) :: .v (x 30) :: .v (x 31) :: .v (x 32) :: .v (x 33) :: []) := by
    unfold bkC
    rw [hx]
    rfl
  rw [e] at hR
  clear e
  refine sim_enter Tryz.func108 ρ [.ptr 0 0] [⟨(.v (x 0) :: .v (x 1) :: .v (x 2) :: .v (x 3) :: .v (x 4) :: .v (x 5) :: .v (x 6) :: .v (x 7) :: .v (x 8) :: .v (x 9) :: .v (x 10) :: .v (x 11) :: .v (x 12) :: .v (x 13) :: .v (x 14) :: .v (x 15) :: .v (x 16) :: .v (x 17) :: .v (x 18) :: .v (x 19) :: .v (.slice none 0 0) :: .v (x 21) :: .v (x 22) :: .v (x 23) :: .v (x 24) :: .v (x 25) :: .v (x 26) :: .v (x 27) :: .v (x 28) :: .v (x 29) :: .v (x 30) :: .v (x 31) :: .v (x 32) :: .v (x 33) :: []), false⟩] (by kernel_rfl) (by simp only [denL, LV.den, Nm.at_, e0]) ?_
  refine sim_run 14 [] (hR.cast (by kernel_rfl)) (by kernel_rfl) trivial (fun ρ10300 w10300 hm10300 hR10300 => ?_)
  refine sim_unroll 2 (by kernel_rfl) ?_
  refine sim_run 19 [] (hR10300.cast (by kernel_rfl)) (by kernel_rfl) trivial (fun ρ10301 w10301 hm10301 hR10301 => ?_)
  refine sim_ret (.v (Value.slice none 0 0)) hR10301 (by kernel_rfl) (by kernel_rfl) ?_
  exact ⟨rfl, hR10301.toBelow⟩
  
set_option maxRecDepth 100000 in
theorem markedLinks_nil (w : World) : Calls Tryz.prog 125 #[.slice none 0 0] w fun e w' => e = .returned (.bool true) ∧ Below w.heap.size w w' := by
  refine sim_enter Tryz.func125 ρ0 [.v (.slice none 0 0)] [] (by kernel_rfl) rfl ?_
  have hR := Rel.start [] w ρ0
  refine sim_run 10 [] (hR.cast (by kernel_rfl)) (by kernel_rfl) trivial (fun ρ10400 w10400 hm10400 hR10400 => ?_)
  refine sim_unroll 2 (by kernel_rfl) ?_
  refine sim_run 15 [] (hR10400.cast (by kernel_rfl)) (by kernel_rfl) trivial (fun ρ10401 w10401 hm10401 hR10401 => ?_)
  refine sim_ret (LB true) hR10401 (by kernel_rfl) (by kernel_rfl) ?_
  exact ⟨rfl, hR10401.toBelow⟩
  
set_option maxRecDepth 100000 in
theorem stillPledges_nil (x : Nat → Value) (b : Nat) (w : World) (h : Blk w b 56 (bkC x).toArray) (hx : x 22 = nilS) : Calls Tryz.prog 75 #[.pointer (some ⟨b, 0, none⟩)] w fun e w' => e = .returned (.bool true) ∧ Below w.heap.size w w' := by
  obtain ⟨ρ, e0, hR⟩ := blk_open h false [] (by simp) (by kernel_rfl)
  have e : (bkC x).map LV.v = (.v (x 0) :: .v (x 1) :: .v (x 2) :: .v (x 3) :: .v (x 4) :: .v (x 5) :: .v (x 6) :: .v (x 7) :: .v (x 8) :: .v (x 9) :: .v (x 10) :: .v (x 11) :: .v (x 12) :: .v (x 13) :: .v (x 14) :: .v (x 15) :: .v (x 16) :: .v (x 17) :: .v (x 18) :: .v (x 19) :: .v (x 20) :: .v (x 21) :: .v (.slice none 0 0) :: .v (x 23) :: .v (x 24) :: .v (x 25) :: .v (x 26) :: .v (x 27) :: .v (x 28) :: .v (x 29) :: .v (x 30) :: .v (x 31) :: .v (x 32) :: .v (x 33) :: []) := by
    unfold bkC
    rw [hx]
    rfl
  rw [e] at hR
  clear e
  refine sim_enter Tryz.func75 ρ [.ptr 0 0] [⟨(.v (x 0) :: .v (x 1) :: .v (x 2) :: .v (x 3) :: .v (x 4) :: .v (x 5) :: .v (x 6) :: .v (x 7) :: .v (x 8) :: .v (x 9) :: .v (x 10) :: .v (x 11) :: .v (x 12) :: .v (x 13) :: .v (x 14) :: .v (x 15) :: .v (x 16) :: .v (x 17) :: .v (x 18) :: .v (x 19) :: .v (x 20) :: .v (x 21) :: .v (.slice none 0 0) :: .v (x 23) :: .v (x 24) :: .v (x 25) :: .v (x 26) :: .v (x 27) :: .v (x 28) :: .v (x 29) :: .v (x 30) :: .v (x 31) :: .v (x 32) :: .v (x 33) :: []), false⟩] (by kernel_rfl) (by simp only [denL, LV.den, Nm.at_, e0]) ?_
  refine sim_run 10 [] (hR.cast (by kernel_rfl)) (by kernel_rfl) trivial (fun ρ11100 w11100 hm11100 hR11100 => ?_)
  refine sim_unroll 2 (by kernel_rfl) ?_
  refine sim_run 18 [] (hR11100.cast (by kernel_rfl)) (by kernel_rfl) trivial (fun ρ11101 w11101 hm11101 hR11101 => ?_)
  refine sim_ret (LB true) hR11101 (by kernel_rfl) (by kernel_rfl) ?_
  exact ⟨rfl, hR11101.toBelow⟩
  
set_option maxRecDepth 100000 in
theorem putPledges_nil (x : Nat → Value) (b : Nat) (w : World) (h : Blk w b 56 (bkC x).toArray) (hx : x 22 = nilS) : Calls Tryz.prog 95 #[.pointer (some ⟨b, 0, none⟩)] w fun e w' => e = .returned (.tuple #[]) ∧ Below w.heap.size w w' := by
  obtain ⟨ρ, e0, hR⟩ := blk_open h false [] (by simp) (by kernel_rfl)
  have e : (bkC x).map LV.v = (.v (x 0) :: .v (x 1) :: .v (x 2) :: .v (x 3) :: .v (x 4) :: .v (x 5) :: .v (x 6) :: .v (x 7) :: .v (x 8) :: .v (x 9) :: .v (x 10) :: .v (x 11) :: .v (x 12) :: .v (x 13) :: .v (x 14) :: .v (x 15) :: .v (x 16) :: .v (x 17) :: .v (x 18) :: .v (x 19) :: .v (x 20) :: .v (x 21) :: .v (.slice none 0 0) :: .v (x 23) :: .v (x 24) :: .v (x 25) :: .v (x 26) :: .v (x 27) :: .v (x 28) :: .v (x 29) :: .v (x 30) :: .v (x 31) :: .v (x 32) :: .v (x 33) :: []) := by
    unfold bkC
    rw [hx]
    rfl
  rw [e] at hR
  clear e
  refine sim_enter Tryz.func95 ρ [.ptr 0 0] [⟨(.v (x 0) :: .v (x 1) :: .v (x 2) :: .v (x 3) :: .v (x 4) :: .v (x 5) :: .v (x 6) :: .v (x 7) :: .v (x 8) :: .v (x 9) :: .v (x 10) :: .v (x 11) :: .v (x 12) :: .v (x 13) :: .v (x 14) :: .v (x 15) :: .v (x 16) :: .v (x 17) :: .v (x 18) :: .v (x 19) :: .v (x 20) :: .v (x 21) :: .v (.slice none 0 0) :: .v (x 23) :: .v (x 24) :: .v (x 25) :: .v (x 26) :: .v (x 27) :: .v (x 28) :: .v (x 29) :: .v (x 30) :: .v (x 31) :: .v (x 32) :: .v (x 33) :: []), false⟩] (by kernel_rfl) (by simp only [denL, LV.den, Nm.at_, e0]) ?_
  refine sim_run 5 [] (hR.cast (by kernel_rfl)) (by kernel_rfl) trivial (fun ρ11200 w11200 hm11200 hR11200 => ?_)
  refine sim_unroll 2 (by kernel_rfl) ?_
  refine sim_run 14 [] (hR11200.cast (by kernel_rfl)) (by kernel_rfl) trivial (fun ρ11201 w11201 hm11201 hR11201 => ?_)
  refine sim_end (.tup []) hR11201 (by kernel_rfl) (by kernel_rfl) ?_
  exact ⟨rfl, hR11201.toBelow⟩
  
set_option maxRecDepth 100000 in
theorem growPledges_nil (x : Nat → Value) (b : Nat) (w : World) (h : Blk w b 56 (bkC x).toArray) (hx : x 22 = nilS) : Calls Tryz.prog 109 #[.pointer (some ⟨b, 0, none⟩)] w fun e w' => e = .returned (.slice none 0 0) ∧ Below w.heap.size w w' := by
  obtain ⟨ρ, e0, hR⟩ := blk_open h false [] (by simp) (by kernel_rfl)
  have e : (bkC x).map LV.v = (.v (x 0) :: .v (x 1) :: .v (x 2) :: .v (x 3) :: .v (x 4) :: .v (x 5) :: .v (x 6) :: .v (x 7) :: .v (x 8) :: .v (x 9) :: .v (x 10) :: .v (x 11) :: .v (x 12) :: .v (x 13) :: .v (x 14) :: .v (x 15) :: .v (x 16) :: .v (x 17) :: .v (x 18) :: .v (x 19) :: .v (x 20) :: .v (x 21) :: .v (.slice none 0 0) :: .v (x 23) :: .v (x 24) :: .v (x 25) :: .v (x 26) :: .v (x 27) :: .v (x 28) :: .v (x 29) :: .v (x 30) :: .v (x 31) :: .v (x 32) :: .v (x 33) :: []) := by
    unfold bkC
    rw [hx]
    rfl
  rw [e] at hR
  clear e
  refine sim_enter Tryz.func109 ρ [.ptr 0 0] [⟨(.v (x 0) :: .v (x 1) :: .v (x 2) :: .v (x 3) :: .v (x 4) :: .v (x 5) :: .v (x 6) :: .v (x 7) :: .v (x 8) :: .v (x 9) :: .v (x 10) :: .v (x 11) :: .v (x 12) :: .v (x 13) :: .v (x 14) :: .v (x 15) :: .v (x 16) :: .v (x 17) :: .v (x 18) :: .v (x 19) :: .v (x 20) :: .v (x 21) :: .v (.slice none 0 0) :: .v (x 23) :: .v (x 24) :: .v (x 25) :: .v (x 26) :: .v (x 27) :: .v (x 28) :: .v (x 29) :: .v (x 30) :: .v (x 31) :: .v (x 32) :: .v (x 33) :: []), false⟩] (by kernel_rfl) (by simp only [denL, LV.den, Nm.at_, e0]) ?_
  refine sim_run 14 [] (hR.cast (by kernel_rfl)) (by kernel_rfl) trivial (fun ρ11300 w11300 hm11300 hR11300 => ?_)
  refine sim_unroll 2 (by kernel_rfl) ?_
  refine sim_run 19 [] (hR11300.cast (by kernel_rfl)) (by kernel_rfl) trivial (fun ρ11301 w11301 hm11301 hR11301 => ?_)
  refine sim_ret (.v (Value.slice none 0 0)) hR11301 (by kernel_rfl) (by kernel_rfl) ?_
  exact ⟨rfl, hR11301.toBelow⟩
  
set_option maxRecDepth 100000 in
theorem markedPledges_nil (w : World) : Calls Tryz.prog 126 #[.slice none 0 0] w fun e w' => e = .returned (.bool true) ∧ Below w.heap.size w w' := by
  refine sim_enter Tryz.func126 ρ0 [.v (.slice none 0 0)] [] (by kernel_rfl) rfl ?_
  have hR := Rel.start [] w ρ0
  refine sim_run 10 [] (hR.cast (by kernel_rfl)) (by kernel_rfl) trivial (fun ρ11400 w11400 hm11400 hR11400 => ?_)
  refine sim_unroll 2 (by kernel_rfl) ?_
  refine sim_run 15 [] (hR11400.cast (by kernel_rfl)) (by kernel_rfl) trivial (fun ρ11401 w11401 hm11401 hR11401 => ?_)
  refine sim_ret (LB true) hR11401 (by kernel_rfl) (by kernel_rfl) ?_
  exact ⟨rfl, hR11401.toBelow⟩
  
set_option maxRecDepth 100000 in
theorem stillLoans_nil (x : Nat → Value) (b : Nat) (w : World) (h : Blk w b 56 (bkC x).toArray) (hx : x 24 = nilS) : Calls Tryz.prog 76 #[.pointer (some ⟨b, 0, none⟩)] w fun e w' => e = .returned (.bool true) ∧ Below w.heap.size w w' := by
  obtain ⟨ρ, e0, hR⟩ := blk_open h false [] (by simp) (by kernel_rfl)
  have e : (bkC x).map LV.v = (.v (x 0) :: .v (x 1) :: .v (x 2) :: .v (x 3) :: .v (x 4) :: .v (x 5) :: .v (x 6) :: .v (x 7) :: .v (x 8) :: .v (x 9) :: .v (x 10) :: .v (x 11) :: .v (x 12) :: .v (x 13) :: .v (x 14) :: .v (x 15) :: .v (x 16) :: .v (x 17) :: .v (x 18) :: .v (x 19) :: .v (x 20) :: .v (x 21) :: .v (x 22) :: .v (x 23) :: .v (.slice none 0 0) :: .v (x 25) :: .v (x 26) :: .v (x 27) :: .v (x 28) :: .v (x 29) :: .v (x 30) :: .v (x 31) :: .v (x 32) :: .v (x 33) :: []) := by
    unfold bkC
    rw [hx]
    rfl
  rw [e] at hR
  clear e
  refine sim_enter Tryz.func76 ρ [.ptr 0 0] [⟨(.v (x 0) :: .v (x 1) :: .v (x 2) :: .v (x 3) :: .v (x 4) :: .v (x 5) :: .v (x 6) :: .v (x 7) :: .v (x 8) :: .v (x 9) :: .v (x 10) :: .v (x 11) :: .v (x 12) :: .v (x 13) :: .v (x 14) :: .v (x 15) :: .v (x 16) :: .v (x 17) :: .v (x 18) :: .v (x 19) :: .v (x 20) :: .v (x 21) :: .v (x 22) :: .v (x 23) :: .v (.slice none 0 0) :: .v (x 25) :: .v (x 26) :: .v (x 27) :: .v (x 28) :: .v (x 29) :: .v (x 30) :: .v (x 31) :: .v (x 32) :: .v (x 33) :: []), false⟩] (by kernel_rfl) (by simp only [denL, LV.den, Nm.at_, e0]) ?_
  refine sim_run 10 [] (hR.cast (by kernel_rfl)) (by kernel_rfl) trivial (fun ρ12100 w12100 hm12100 hR12100 => ?_)
  refine sim_unroll 2 (by kernel_rfl) ?_
  refine sim_run 18 [] (hR12100.cast (by kernel_rfl)) (by kernel_rfl) trivial (fun ρ12101 w12101 hm12101 hR12101 => ?_)
  refine sim_ret (LB true) hR12101 (by kernel_rfl) (by kernel_rfl) ?_
  exact ⟨rfl, hR12101.toBelow⟩
  
set_option maxRecDepth 100000 in
theorem putLoans_nil (x : Nat → Value) (b : Nat) (w : World) (h : Blk w b 56 (bkC x).toArray) (hx : x 24 = nilS) : Calls Tryz.prog 82 #[.pointer (some ⟨b, 0, none⟩)] w fun e w' => e = .returned (.tuple #[]) ∧ Below w.heap.size w w' := by
  obtain ⟨ρ, e0, hR⟩ := blk_open h false [] (by simp) (by kernel_rfl)
  have e : (bkC x).map LV.v = (.v (x 0) :: .v (x 1) :: .v (x 2) :: .v (x 3) :: .v (x 4) :: .v (x 5) :: .v (x 6) :: .v (x 7) :: .v (x 8) :: .v (x 9) :: .v (x 10) :: .v (x 11) :: .v (x 12) :: .v (x 13) :: .v (x 14) :: .v (x 15) :: .v (x 16) :: .v (x 17) :: .v (x 18) :: .v (x 19) :: .v (x 20) :: .v (x 21) :: .v (x 22) :: .v (x 23) :: .v (.slice none 0 0) :: .v (x 25) :: .v (x 26) :: .v (x 27) :: .v (x 28) :: .v (x 29) :: .v (x 30) :: .v (x 31) :: .v (x 32) :: .v (x 33) :: []) := by
    unfold bkC
    rw [hx]
    rfl
  rw [e] at hR
  clear e
  refine sim_enter Tryz.func82 ρ [.ptr 0 0] [⟨(.v (x 0) :: .v (x 1) :: .v (x 2) :: .v (x 3) :: .v (x 4) :: .v (x 5) :: .v (x 6) :: .v (x 7) :: .v (x 8) :: .v (x 9) :: .v (x 10) :: .v (x 11) :: .v (x 12) :: .v (x 13) :: .v (x 14) :: .v (x 15) :: .v (x 16) :: .v (x 17) :: .v (x 18) :: .v (x 19) :: .v (x 20) :: .v (x 21) :: .v (x 22) :: .v (x 23) :: .v (.slice none 0 0) :: .v (x 25) :: .v (x 26) :: .v (x 27) :: .v (x 28) :: .v (x 29) :: .v (x 30) :: .v (x 31) :: .v (x 32) :: .v (x 33) :: []), false⟩] (by kernel_rfl) (by simp only [denL, LV.den, Nm.at_, e0]) ?_
  refine sim_run 5 [] (hR.cast (by kernel_rfl)) (by kernel_rfl) trivial (fun ρ12200 w12200 hm12200 hR12200 => ?_)
  refine sim_unroll 2 (by kernel_rfl) ?_
  refine sim_run 14 [] (hR12200.cast (by kernel_rfl)) (by kernel_rfl) trivial (fun ρ12201 w12201 hm12201 hR12201 => ?_)
  refine sim_end (.tup []) hR12201 (by kernel_rfl) (by kernel_rfl) ?_
  exact ⟨rfl, hR12201.toBelow⟩
  
set_option maxRecDepth 100000 in
theorem growLoans_nil (x : Nat → Value) (b : Nat) (w : World) (h : Blk w b 56 (bkC x).toArray) (hx : x 24 = nilS) : Calls Tryz.prog 110 #[.pointer (some ⟨b, 0, none⟩)] w fun e w' => e = .returned (.slice none 0 0) ∧ Below w.heap.size w w' := by
  obtain ⟨ρ, e0, hR⟩ := blk_open h false [] (by simp) (by kernel_rfl)
  have e : (bkC x).map LV.v = (.v (x 0) :: .v (x 1) :: .v (x 2) :: .v (x 3) :: .v (x 4) :: .v (x 5) :: .v (x 6) :: .v (x 7) :: .v (x 8) :: .v (x 9) :: .v (x 10) :: .v (x 11) :: .v (x 12) :: .v (x 13) :: .v (x 14) :: .v (x 15) :: .v (x 16) :: .v (x 17) :: .v (x 18) :: .v (x 19) :: .v (x 20) :: .v (x 21) :: .v (x 22) :: .v (x 23) :: .v (.slice none 0 0) :: .v (x 25) :: .v (x 26) :: .v (x 27) :: .v (x 28) :: .v (x 29) :: .v (x 30) :: .v (x 31) :: .v (x 32) :: .v (x 33) :: []) := by
    unfold bkC
    rw [hx]
    rfl
  rw [e] at hR
  clear e
  refine sim_enter Tryz.func110 ρ [.ptr 0 0] [⟨(.v (x 0) :: .v (x 1) :: .v (x 2) :: .v (x 3) :: .v (x 4) :: .v (x 5) :: .v (x 6) :: .v (x 7) :: .v (x 8) :: .v (x 9) :: .v (x 10) :: .v (x 11) :: .v (x 12) :: .v (x 13) :: .v (x 14) :: .v (x 15) :: .v (x 16) :: .v (x 17) :: .v (x 18) :: .v (x 19) :: .v (x 20) :: .v (x 21) :: .v (x 22) :: .v (x 23) :: .v (.slice none 0 0) :: .v (x 25) :: .v (x 26) :: .v (x 27) :: .v (x 28) :: .v (x 29) :: .v (x 30) :: .v (x 31) :: .v (x 32) :: .v (x 33) :: []), false⟩] (by kernel_rfl) (by simp only [denL, LV.den, Nm.at_, e0]) ?_
  refine sim_run 14 [] (hR.cast (by kernel_rfl)) (by kernel_rfl) trivial (fun ρ12300 w12300 hm12300 hR12300 => ?_)
  refine sim_unroll 2 (by kernel_rfl) ?_
  refine sim_run 19 [] (hR12300.cast (by kernel_rfl)) (by kernel_rfl) trivial (fun ρ12301 w12301 hm12301 hR12301 => ?_)
  refine sim_ret (.v (Value.slice none 0 0)) hR12301 (by kernel_rfl) (by kernel_rfl) ?_
  exact ⟨rfl, hR12301.toBelow⟩
  
set_option maxRecDepth 100000 in
theorem markedLoans_nil (w : World) : Calls Tryz.prog 127 #[.slice none 0 0] w fun e w' => e = .returned (.bool true) ∧ Below w.heap.size w w' := by
  refine sim_enter Tryz.func127 ρ0 [.v (.slice none 0 0)] [] (by kernel_rfl) rfl ?_
  have hR := Rel.start [] w ρ0
  refine sim_run 10 [] (hR.cast (by kernel_rfl)) (by kernel_rfl) trivial (fun ρ12400 w12400 hm12400 hR12400 => ?_)
  refine sim_unroll 2 (by kernel_rfl) ?_
  refine sim_run 15 [] (hR12400.cast (by kernel_rfl)) (by kernel_rfl) trivial (fun ρ12401 w12401 hm12401 hR12401 => ?_)
  refine sim_ret (LB true) hR12401 (by kernel_rfl) (by kernel_rfl) ?_
  exact ⟨rfl, hR12401.toBelow⟩
  
set_option maxRecDepth 100000 in
theorem stillTakes_nil (x : Nat → Value) (b : Nat) (w : World) (h : Blk w b 56 (bkC x).toArray) (hx : x 26 = nilS) : Calls Tryz.prog 77 #[.pointer (some ⟨b, 0, none⟩)] w fun e w' => e = .returned (.bool true) ∧ Below w.heap.size w w' := by
  obtain ⟨ρ, e0, hR⟩ := blk_open h false [] (by simp) (by kernel_rfl)
  have e : (bkC x).map LV.v = (.v (x 0) :: .v (x 1) :: .v (x 2) :: .v (x 3) :: .v (x 4) :: .v (x 5) :: .v (x 6) :: .v (x 7) :: .v (x 8) :: .v (x 9) :: .v (x 10) :: .v (x 11) :: .v (x 12) :: .v (x 13) :: .v (x 14) :: .v (x 15) :: .v (x 16) :: .v (x 17) :: .v (x 18) :: .v (x 19) :: .v (x 20) :: .v (x 21) :: .v (x 22) :: .v (x 23) :: .v (x 24) :: .v (x 25) :: .v (.slice none 0 0) :: .v (x 27) :: .v (x 28) :: .v (x 29) :: .v (x 30) :: .v (x 31) :: .v (x 32) :: .v (x 33) :: []) := by
    unfold bkC
    rw [hx]
    rfl
  rw [e] at hR
  clear e
  refine sim_enter Tryz.func77 ρ [.ptr 0 0] [⟨(.v (x 0) :: .v (x 1) :: .v (x 2) :: .v (x 3) :: .v (x 4) :: .v (x 5) :: .v (x 6) :: .v (x 7) :: .v (x 8) :: .v (x 9) :: .v (x 10) :: .v (x 11) :: .v (x 12) :: .v (x 13) :: .v (x 14) :: .v (x 15) :: .v (x 16) :: .v (x 17) :: .v (x 18) :: .v (x 19) :: .v (x 20) :: .v (x 21) :: .v (x 22) :: .v (x 23) :: .v (x 24) :: .v (x 25) :: .v (.slice none 0 0) :: .v (x 27) :: .v (x 28) :: .v (x 29) :: .v (x 30) :: .v (x 31) :: .v (x 32) :: .v (x 33) :: []), false⟩] (by kernel_rfl) (by simp only [denL, LV.den, Nm.at_, e0]) ?_
  refine sim_run 10 [] (hR.cast (by kernel_rfl)) (by kernel_rfl) trivial (fun ρ13100 w13100 hm13100 hR13100 => ?_)
  refine sim_unroll 2 (by kernel_rfl) ?_
  refine sim_run 18 [] (hR13100.cast (by kernel_rfl)) (by kernel_rfl) trivial (fun ρ13101 w13101 hm13101 hR13101 => ?_)
  refine sim_ret (LB true) hR13101 (by kernel_rfl) (by kernel_rfl) ?_
  exact ⟨rfl, hR13101.toBelow⟩
  
set_option maxRecDepth 100000 in
theorem putTakes_nil (x : Nat → Value) (b : Nat) (w : World) (h : Blk w b 56 (bkC x).toArray) (hx : x 26 = nilS) : Calls Tryz.prog 83 #[.pointer (some ⟨b, 0, none⟩)] w fun e w' => e = .returned (.tuple #[]) ∧ Below w.heap.size w w' := by
  obtain ⟨ρ, e0, hR⟩ := blk_open h false [] (by simp) (by kernel_rfl)
  have e : (bkC x).map LV.v = (.v (x 0) :: .v (x 1) :: .v (x 2) :: .v (x 3) :: .v (x 4) :: .v (x 5) :: .v (x 6) :: .v (x 7) :: .v (x 8) :: .v (x 9) :: .v (x 10) :: .v (x 11) :: .v (x 12) :: .v (x 13) :: .v (x 14) :: .v (x 15) :: .v (x 16) :: .v (x 17) :: .v (x 18) :: .v (x 19) :: .v (x 20) :: .v (x 21) :: .v (x 22) :: .v (x 23) :: .v (x 24) :: .v (x 25) :: .v (.slice none 0 0) :: .v (x 27) :: .v (x 28) :: .v (x 29) :: .v (x 30) :: .v (x 31) :: .v (x 32) :: .v (x 33) :: []) := by
    unfold bkC
    rw [hx]
    rfl
  rw [e] at hR
  clear e
  refine sim_enter Tryz.func83 ρ [.ptr 0 0] [⟨(.v (x 0) :: .v (x 1) :: .v (x 2) :: .v (x 3) :: .v (x 4) :: .v (x 5) :: .v (x 6) :: .v (x 7) :: .v (x 8) :: .v (x 9) :: .v (x 10) :: .v (x 11) :: .v (x 12) :: .v (x 13) :: .v (x 14) :: .v (x 15) :: .v (x 16) :: .v (x 17) :: .v (x 18) :: .v (x 19) :: .v (x 20) :: .v (x 21) :: .v (x 22) :: .v (x 23) :: .v (x 24) :: .v (x 25) :: .v (.slice none 0 0) :: .v (x 27) :: .v (x 28) :: .v (x 29) :: .v (x 30) :: .v (x 31) :: .v (x 32) :: .v (x 33) :: []), false⟩] (by kernel_rfl) (by simp only [denL, LV.den, Nm.at_, e0]) ?_
  refine sim_run 5 [] (hR.cast (by kernel_rfl)) (by kernel_rfl) trivial (fun ρ13200 w13200 hm13200 hR13200 => ?_)
  refine sim_unroll 2 (by kernel_rfl) ?_
  refine sim_run 14 [] (hR13200.cast (by kernel_rfl)) (by kernel_rfl) trivial (fun ρ13201 w13201 hm13201 hR13201 => ?_)
  refine sim_end (.tup []) hR13201 (by kernel_rfl) (by kernel_rfl) ?_
  exact ⟨rfl, hR13201.toBelow⟩
  
set_option maxRecDepth 100000 in
theorem growTakes_nil (x : Nat → Value) (b : Nat) (w : World) (h : Blk w b 56 (bkC x).toArray) (hx : x 26 = nilS) : Calls Tryz.prog 111 #[.pointer (some ⟨b, 0, none⟩)] w fun e w' => e = .returned (.slice none 0 0) ∧ Below w.heap.size w w' := by
  obtain ⟨ρ, e0, hR⟩ := blk_open h false [] (by simp) (by kernel_rfl)
  have e : (bkC x).map LV.v = (.v (x 0) :: .v (x 1) :: .v (x 2) :: .v (x 3) :: .v (x 4) :: .v (x 5) :: .v (x 6) :: .v (x 7) :: .v (x 8) :: .v (x 9) :: .v (x 10) :: .v (x 11) :: .v (x 12) :: .v (x 13) :: .v (x 14) :: .v (x 15) :: .v (x 16) :: .v (x 17) :: .v (x 18) :: .v (x 19) :: .v (x 20) :: .v (x 21) :: .v (x 22) :: .v (x 23) :: .v (x 24) :: .v (x 25) :: .v (.slice none 0 0) :: .v (x 27) :: .v (x 28) :: .v (x 29) :: .v (x 30) :: .v (x 31) :: .v (x 32) :: .v (x 33) :: []) := by
    unfold bkC
    rw [hx]
    rfl
  rw [e] at hR
  clear e
  refine sim_enter Tryz.func111 ρ [.ptr 0 0] [⟨(.v (x 0) :: .v (x 1) :: .v (x 2) :: .v (x 3) :: .v (x 4) :: .v (x 5) :: .v (x 6) :: .v (x 7) :: .v (x 8) :: .v (x 9) :: .v (x 10) :: .v (x 11) :: .v (x 12) :: .v (x 13) :: .v (x 14) :: .v (x 15) :: .v (x 16) :: .v (x 17) :: .v (x 18) :: .v (x 19) :: .v (x 20) :: .v (x 21) :: .v (x 22) :: .v (x 23) :: .v (x 24) :: .v (x 25) :: .v (.slice none 0 0) :: .v (x 27) :: .v (x 28) :: .v (x 29) :: .v (x 30) :: .v (x 31) :: .v (x 32) :: .v (x 33) :: []), false⟩] (by kernel_rfl) (by simp only [denL, LV.den, Nm.at_, e0]) ?_
  refine sim_run 14 [] (hR.cast (by kernel_rfl)) (by kernel_rfl) trivial (fun ρ13300 w13300 hm13300 hR13300 => ?_)
  refine sim_unroll 2 (by kernel_rfl) ?_
  refine sim_run 19 [] (hR13300.cast (by kernel_rfl)) (by kernel_rfl) trivial (fun ρ13301 w13301 hm13301 hR13301 => ?_)
  refine sim_ret (.v (Value.slice none 0 0)) hR13301 (by kernel_rfl) (by kernel_rfl) ?_
  exact ⟨rfl, hR13301.toBelow⟩
  
set_option maxRecDepth 100000 in
theorem markedTakes_nil (w : World) : Calls Tryz.prog 128 #[.slice none 0 0] w fun e w' => e = .returned (.bool true) ∧ Below w.heap.size w w' := by
  refine sim_enter Tryz.func128 ρ0 [.v (.slice none 0 0)] [] (by kernel_rfl) rfl ?_
  have hR := Rel.start [] w ρ0
  refine sim_run 10 [] (hR.cast (by kernel_rfl)) (by kernel_rfl) trivial (fun ρ13400 w13400 hm13400 hR13400 => ?_)
  refine sim_unroll 2 (by kernel_rfl) ?_
  refine sim_run 15 [] (hR13400.cast (by kernel_rfl)) (by kernel_rfl) trivial (fun ρ13401 w13401 hm13401 hR13401 => ?_)
  refine sim_ret (LB true) hR13401 (by kernel_rfl) (by kernel_rfl) ?_
  exact ⟨rfl, hR13401.toBelow⟩
  
set_option maxRecDepth 100000 in
theorem stillLegs_nil (x : Nat → Value) (b : Nat) (w : World) (h : Blk w b 56 (bkC x).toArray) (hx : x 28 = nilS) : Calls Tryz.prog 78 #[.pointer (some ⟨b, 0, none⟩)] w fun e w' => e = .returned (.bool true) ∧ Below w.heap.size w w' := by
  obtain ⟨ρ, e0, hR⟩ := blk_open h false [] (by simp) (by kernel_rfl)
  have e : (bkC x).map LV.v = (.v (x 0) :: .v (x 1) :: .v (x 2) :: .v (x 3) :: .v (x 4) :: .v (x 5) :: .v (x 6) :: .v (x 7) :: .v (x 8) :: .v (x 9) :: .v (x 10) :: .v (x 11) :: .v (x 12) :: .v (x 13) :: .v (x 14) :: .v (x 15) :: .v (x 16) :: .v (x 17) :: .v (x 18) :: .v (x 19) :: .v (x 20) :: .v (x 21) :: .v (x 22) :: .v (x 23) :: .v (x 24) :: .v (x 25) :: .v (x 26) :: .v (x 27) :: .v (.slice none 0 0) :: .v (x 29) :: .v (x 30) :: .v (x 31) :: .v (x 32) :: .v (x 33) :: []) := by
    unfold bkC
    rw [hx]
    rfl
  rw [e] at hR
  clear e
  refine sim_enter Tryz.func78 ρ [.ptr 0 0] [⟨(.v (x 0) :: .v (x 1) :: .v (x 2) :: .v (x 3) :: .v (x 4) :: .v (x 5) :: .v (x 6) :: .v (x 7) :: .v (x 8) :: .v (x 9) :: .v (x 10) :: .v (x 11) :: .v (x 12) :: .v (x 13) :: .v (x 14) :: .v (x 15) :: .v (x 16) :: .v (x 17) :: .v (x 18) :: .v (x 19) :: .v (x 20) :: .v (x 21) :: .v (x 22) :: .v (x 23) :: .v (x 24) :: .v (x 25) :: .v (x 26) :: .v (x 27) :: .v (.slice none 0 0) :: .v (x 29) :: .v (x 30) :: .v (x 31) :: .v (x 32) :: .v (x 33) :: []), false⟩] (by kernel_rfl) (by simp only [denL, LV.den, Nm.at_, e0]) ?_
  refine sim_run 10 [] (hR.cast (by kernel_rfl)) (by kernel_rfl) trivial (fun ρ14100 w14100 hm14100 hR14100 => ?_)
  refine sim_unroll 2 (by kernel_rfl) ?_
  refine sim_run 18 [] (hR14100.cast (by kernel_rfl)) (by kernel_rfl) trivial (fun ρ14101 w14101 hm14101 hR14101 => ?_)
  refine sim_ret (LB true) hR14101 (by kernel_rfl) (by kernel_rfl) ?_
  exact ⟨rfl, hR14101.toBelow⟩
  
set_option maxRecDepth 100000 in
theorem putLegs_nil (x : Nat → Value) (b : Nat) (w : World) (h : Blk w b 56 (bkC x).toArray) (hx : x 28 = nilS) : Calls Tryz.prog 96 #[.pointer (some ⟨b, 0, none⟩)] w fun e w' => e = .returned (.tuple #[]) ∧ Below w.heap.size w w' := by
  obtain ⟨ρ, e0, hR⟩ := blk_open h false [] (by simp) (by kernel_rfl)
  have e : (bkC x).map LV.v = (.v (x 0) :: .v (x 1) :: .v (x 2) :: .v (x 3) :: .v (x 4) :: .v (x 5) :: .v (x 6) :: .v (x 7) :: .v (x 8) :: .v (x 9) :: .v (x 10) :: .v (x 11) :: .v (x 12) :: .v (x 13) :: .v (x 14) :: .v (x 15) :: .v (x 16) :: .v (x 17) :: .v (x 18) :: .v (x 19) :: .v (x 20) :: .v (x 21) :: .v (x 22) :: .v (x 23) :: .v (x 24) :: .v (x 25) :: .v (x 26) :: .v (x 27) :: .v (.slice none 0 0) :: .v (x 29) :: .v (x 30) :: .v (x 31) :: .v (x 32) :: .v (x 33) :: []) := by
    unfold bkC
    rw [hx]
    rfl
  rw [e] at hR
  clear e
  refine sim_enter Tryz.func96 ρ [.ptr 0 0] [⟨(.v (x 0) :: .v (x 1) :: .v (x 2) :: .v (x 3) :: .v (x 4) :: .v (x 5) :: .v (x 6) :: .v (x 7) :: .v (x 8) :: .v (x 9) :: .v (x 10) :: .v (x 11) :: .v (x 12) :: .v (x 13) :: .v (x 14) :: .v (x 15) :: .v (x 16) :: .v (x 17) :: .v (x 18) :: .v (x 19) :: .v (x 20) :: .v (x 21) :: .v (x 22) :: .v (x 23) :: .v (x 24) :: .v (x 25) :: .v (x 26) :: .v (x 27) :: .v (.slice none 0 0) :: .v (x 29) :: .v (x 30) :: .v (x 31) :: .v (x 32) :: .v (x 33) :: []), false⟩] (by kernel_rfl) (by simp only [denL, LV.den, Nm.at_, e0]) ?_
  refine sim_run 5 [] (hR.cast (by kernel_rfl)) (by kernel_rfl) trivial (fun ρ14200 w14200 hm14200 hR14200 => ?_)
  refine sim_unroll 2 (by kernel_rfl) ?_
  refine sim_run 14 [] (hR14200.cast (by kernel_rfl)) (by kernel_rfl) trivial (fun ρ14201 w14201 hm14201 hR14201 => ?_)
  refine sim_end (.tup []) hR14201 (by kernel_rfl) (by kernel_rfl) ?_
  exact ⟨rfl, hR14201.toBelow⟩
  
set_option maxRecDepth 100000 in
theorem growLegs_nil (x : Nat → Value) (b : Nat) (w : World) (h : Blk w b 56 (bkC x).toArray) (hx : x 28 = nilS) : Calls Tryz.prog 112 #[.pointer (some ⟨b, 0, none⟩)] w fun e w' => e = .returned (.slice none 0 0) ∧ Below w.heap.size w w' := by
  obtain ⟨ρ, e0, hR⟩ := blk_open h false [] (by simp) (by kernel_rfl)
  have e : (bkC x).map LV.v = (.v (x 0) :: .v (x 1) :: .v (x 2) :: .v (x 3) :: .v (x 4) :: .v (x 5) :: .v (x 6) :: .v (x 7) :: .v (x 8) :: .v (x 9) :: .v (x 10) :: .v (x 11) :: .v (x 12) :: .v (x 13) :: .v (x 14) :: .v (x 15) :: .v (x 16) :: .v (x 17) :: .v (x 18) :: .v (x 19) :: .v (x 20) :: .v (x 21) :: .v (x 22) :: .v (x 23) :: .v (x 24) :: .v (x 25) :: .v (x 26) :: .v (x 27) :: .v (.slice none 0 0) :: .v (x 29) :: .v (x 30) :: .v (x 31) :: .v (x 32) :: .v (x 33) :: []) := by
    unfold bkC
    rw [hx]
    rfl
  rw [e] at hR
  clear e
  refine sim_enter Tryz.func112 ρ [.ptr 0 0] [⟨(.v (x 0) :: .v (x 1) :: .v (x 2) :: .v (x 3) :: .v (x 4) :: .v (x 5) :: .v (x 6) :: .v (x 7) :: .v (x 8) :: .v (x 9) :: .v (x 10) :: .v (x 11) :: .v (x 12) :: .v (x 13) :: .v (x 14) :: .v (x 15) :: .v (x 16) :: .v (x 17) :: .v (x 18) :: .v (x 19) :: .v (x 20) :: .v (x 21) :: .v (x 22) :: .v (x 23) :: .v (x 24) :: .v (x 25) :: .v (x 26) :: .v (x 27) :: .v (.slice none 0 0) :: .v (x 29) :: .v (x 30) :: .v (x 31) :: .v (x 32) :: .v (x 33) :: []), false⟩] (by kernel_rfl) (by simp only [denL, LV.den, Nm.at_, e0]) ?_
  refine sim_run 14 [] (hR.cast (by kernel_rfl)) (by kernel_rfl) trivial (fun ρ14300 w14300 hm14300 hR14300 => ?_)
  refine sim_unroll 2 (by kernel_rfl) ?_
  refine sim_run 19 [] (hR14300.cast (by kernel_rfl)) (by kernel_rfl) trivial (fun ρ14301 w14301 hm14301 hR14301 => ?_)
  refine sim_ret (.v (Value.slice none 0 0)) hR14301 (by kernel_rfl) (by kernel_rfl) ?_
  exact ⟨rfl, hR14301.toBelow⟩
  
set_option maxRecDepth 100000 in
theorem markedLegs_nil (w : World) : Calls Tryz.prog 129 #[.slice none 0 0] w fun e w' => e = .returned (.bool true) ∧ Below w.heap.size w w' := by
  refine sim_enter Tryz.func129 ρ0 [.v (.slice none 0 0)] [] (by kernel_rfl) rfl ?_
  have hR := Rel.start [] w ρ0
  refine sim_run 10 [] (hR.cast (by kernel_rfl)) (by kernel_rfl) trivial (fun ρ14400 w14400 hm14400 hR14400 => ?_)
  refine sim_unroll 2 (by kernel_rfl) ?_
  refine sim_run 15 [] (hR14400.cast (by kernel_rfl)) (by kernel_rfl) trivial (fun ρ14401 w14401 hm14401 hR14401 => ?_)
  refine sim_ret (LB true) hR14401 (by kernel_rfl) (by kernel_rfl) ?_
  exact ⟨rfl, hR14401.toBelow⟩
  
set_option maxRecDepth 100000 in
theorem stillStocks_nil (x : Nat → Value) (b : Nat) (w : World) (h : Blk w b 56 (bkC x).toArray) (hx : x 30 = nilS) : Calls Tryz.prog 79 #[.pointer (some ⟨b, 0, none⟩)] w fun e w' => e = .returned (.bool true) ∧ Below w.heap.size w w' := by
  obtain ⟨ρ, e0, hR⟩ := blk_open h false [] (by simp) (by kernel_rfl)
  have e : (bkC x).map LV.v = (.v (x 0) :: .v (x 1) :: .v (x 2) :: .v (x 3) :: .v (x 4) :: .v (x 5) :: .v (x 6) :: .v (x 7) :: .v (x 8) :: .v (x 9) :: .v (x 10) :: .v (x 11) :: .v (x 12) :: .v (x 13) :: .v (x 14) :: .v (x 15) :: .v (x 16) :: .v (x 17) :: .v (x 18) :: .v (x 19) :: .v (x 20) :: .v (x 21) :: .v (x 22) :: .v (x 23) :: .v (x 24) :: .v (x 25) :: .v (x 26) :: .v (x 27) :: .v (x 28) :: .v (x 29) :: .v (.slice none 0 0) :: .v (x 31) :: .v (x 32) :: .v (x 33) :: []) := by
    unfold bkC
    rw [hx]
    rfl
  rw [e] at hR
  clear e
  refine sim_enter Tryz.func79 ρ [.ptr 0 0] [⟨(.v (x 0) :: .v (x 1) :: .v (x 2) :: .v (x 3) :: .v (x 4) :: .v (x 5) :: .v (x 6) :: .v (x 7) :: .v (x 8) :: .v (x 9) :: .v (x 10) :: .v (x 11) :: .v (x 12) :: .v (x 13) :: .v (x 14) :: .v (x 15) :: .v (x 16) :: .v (x 17) :: .v (x 18) :: .v (x 19) :: .v (x 20) :: .v (x 21) :: .v (x 22) :: .v (x 23) :: .v (x 24) :: .v (x 25) :: .v (x 26) :: .v (x 27) :: .v (x 28) :: .v (x 29) :: .v (.slice none 0 0) :: .v (x 31) :: .v (x 32) :: .v (x 33) :: []), false⟩] (by kernel_rfl) (by simp only [denL, LV.den, Nm.at_, e0]) ?_
  refine sim_run 10 [] (hR.cast (by kernel_rfl)) (by kernel_rfl) trivial (fun ρ15100 w15100 hm15100 hR15100 => ?_)
  refine sim_unroll 2 (by kernel_rfl) ?_
  refine sim_run 18 [] (hR15100.cast (by kernel_rfl)) (by kernel_rfl) trivial (fun ρ15101 w15101 hm15101 hR15101 => ?_)
  refine sim_ret (LB true) hR15101 (by kernel_rfl) (by kernel_rfl) ?_
  exact ⟨rfl, hR15101.toBelow⟩
  
set_option maxRecDepth 100000 in
theorem putStocks_nil (x : Nat → Value) (b : Nat) (w : World) (h : Blk w b 56 (bkC x).toArray) (hx : x 30 = nilS) : Calls Tryz.prog 97 #[.pointer (some ⟨b, 0, none⟩)] w fun e w' => e = .returned (.tuple #[]) ∧ Below w.heap.size w w' := by
  obtain ⟨ρ, e0, hR⟩ := blk_open h false [] (by simp) (by kernel_rfl)
  have e : (bkC x).map LV.v = (.v (x 0) :: .v (x 1) :: .v (x 2) :: .v (x 3) :: .v (x 4) :: .v (x 5) :: .v (x 6) :: .v (x 7) :: .v (x 8) :: .v (x 9) :: .v (x 10) :: .v (x 11) :: .v (x 12) :: .v (x 13) :: .v (x 14) :: .v (x 15) :: .v (x 16) :: .v (x 17) :: .v (x 18) :: .v (x 19) :: .v (x 20) :: .v (x 21) :: .v (x 22) :: .v (x 23) :: .v (x 24) :: .v (x 25) :: .v (x 26) :: .v (x 27) :: .v (x 28) :: .v (x 29) :: .v (.slice none 0 0) :: .v (x 31) :: .v (x 32) :: .v (x 33) :: []) := by
    unfold bkC
    rw [hx]
    rfl
  rw [e] at hR
  clear e
  refine sim_enter Tryz.func97 ρ [.ptr 0 0] [⟨(.v (x 0) :: .v (x 1) :: .v (x 2) :: .v (x 3) :: .v (x 4) :: .v (x 5) :: .v (x 6) :: .v (x 7) :: .v (x 8) :: .v (x 9) :: .v (x 10) :: .v (x 11) :: .v (x 12) :: .v (x 13) :: .v (x 14) :: .v (x 15) :: .v (x 16) :: .v (x 17) :: .v (x 18) :: .v (x 19) :: .v (x 20) :: .v (x 21) :: .v (x 22) :: .v (x 23) :: .v (x 24) :: .v (x 25) :: .v (x 26) :: .v (x 27) :: .v (x 28) :: .v (x 29) :: .v (.slice none 0 0) :: .v (x 31) :: .v (x 32) :: .v (x 33) :: []), false⟩] (by kernel_rfl) (by simp only [denL, LV.den, Nm.at_, e0]) ?_
  refine sim_run 5 [] (hR.cast (by kernel_rfl)) (by kernel_rfl) trivial (fun ρ15200 w15200 hm15200 hR15200 => ?_)
  refine sim_unroll 2 (by kernel_rfl) ?_
  refine sim_run 14 [] (hR15200.cast (by kernel_rfl)) (by kernel_rfl) trivial (fun ρ15201 w15201 hm15201 hR15201 => ?_)
  refine sim_end (.tup []) hR15201 (by kernel_rfl) (by kernel_rfl) ?_
  exact ⟨rfl, hR15201.toBelow⟩
  
set_option maxRecDepth 100000 in
theorem growStocks_nil (x : Nat → Value) (b : Nat) (w : World) (h : Blk w b 56 (bkC x).toArray) (hx : x 30 = nilS) : Calls Tryz.prog 113 #[.pointer (some ⟨b, 0, none⟩)] w fun e w' => e = .returned (.slice none 0 0) ∧ Below w.heap.size w w' := by
  obtain ⟨ρ, e0, hR⟩ := blk_open h false [] (by simp) (by kernel_rfl)
  have e : (bkC x).map LV.v = (.v (x 0) :: .v (x 1) :: .v (x 2) :: .v (x 3) :: .v (x 4) :: .v (x 5) :: .v (x 6) :: .v (x 7) :: .v (x 8) :: .v (x 9) :: .v (x 10) :: .v (x 11) :: .v (x 12) :: .v (x 13) :: .v (x 14) :: .v (x 15) :: .v (x 16) :: .v (x 17) :: .v (x 18) :: .v (x 19) :: .v (x 20) :: .v (x 21) :: .v (x 22) :: .v (x 23) :: .v (x 24) :: .v (x 25) :: .v (x 26) :: .v (x 27) :: .v (x 28) :: .v (x 29) :: .v (.slice none 0 0) :: .v (x 31) :: .v (x 32) :: .v (x 33) :: []) := by
    unfold bkC
    rw [hx]
    rfl
  rw [e] at hR
  clear e
  refine sim_enter Tryz.func113 ρ [.ptr 0 0] [⟨(.v (x 0) :: .v (x 1) :: .v (x 2) :: .v (x 3) :: .v (x 4) :: .v (x 5) :: .v (x 6) :: .v (x 7) :: .v (x 8) :: .v (x 9) :: .v (x 10) :: .v (x 11) :: .v (x 12) :: .v (x 13) :: .v (x 14) :: .v (x 15) :: .v (x 16) :: .v (x 17) :: .v (x 18) :: .v (x 19) :: .v (x 20) :: .v (x 21) :: .v (x 22) :: .v (x 23) :: .v (x 24) :: .v (x 25) :: .v (x 26) :: .v (x 27) :: .v (x 28) :: .v (x 29) :: .v (.slice none 0 0) :: .v (x 31) :: .v (x 32) :: .v (x 33) :: []), false⟩] (by kernel_rfl) (by simp only [denL, LV.den, Nm.at_, e0]) ?_
  refine sim_run 14 [] (hR.cast (by kernel_rfl)) (by kernel_rfl) trivial (fun ρ15300 w15300 hm15300 hR15300 => ?_)
  refine sim_unroll 2 (by kernel_rfl) ?_
  refine sim_run 19 [] (hR15300.cast (by kernel_rfl)) (by kernel_rfl) trivial (fun ρ15301 w15301 hm15301 hR15301 => ?_)
  refine sim_ret (.v (Value.slice none 0 0)) hR15301 (by kernel_rfl) (by kernel_rfl) ?_
  exact ⟨rfl, hR15301.toBelow⟩
  
set_option maxRecDepth 100000 in
theorem markedStocks_nil (w : World) : Calls Tryz.prog 130 #[.slice none 0 0] w fun e w' => e = .returned (.bool true) ∧ Below w.heap.size w w' := by
  refine sim_enter Tryz.func130 ρ0 [.v (.slice none 0 0)] [] (by kernel_rfl) rfl ?_
  have hR := Rel.start [] w ρ0
  refine sim_run 10 [] (hR.cast (by kernel_rfl)) (by kernel_rfl) trivial (fun ρ15400 w15400 hm15400 hR15400 => ?_)
  refine sim_unroll 2 (by kernel_rfl) ?_
  refine sim_run 15 [] (hR15400.cast (by kernel_rfl)) (by kernel_rfl) trivial (fun ρ15401 w15401 hm15401 hR15401 => ?_)
  refine sim_ret (LB true) hR15401 (by kernel_rfl) (by kernel_rfl) ?_
  exact ⟨rfl, hR15401.toBelow⟩
  
set_option maxRecDepth 100000 in
theorem stillSteps_nil (x : Nat → Value) (b : Nat) (w : World) (h : Blk w b 56 (bkC x).toArray) (hx : x 32 = nilS) : Calls Tryz.prog 80 #[.pointer (some ⟨b, 0, none⟩)] w fun e w' => e = .returned (.bool true) ∧ Below w.heap.size w w' := by
  obtain ⟨ρ, e0, hR⟩ := blk_open h false [] (by simp) (by kernel_rfl)
  have e : (bkC x).map LV.v = (.v (x 0) :: .v (x 1) :: .v (x 2) :: .v (x 3) :: .v (x 4) :: .v (x 5) :: .v (x 6) :: .v (x 7) :: .v (x 8) :: .v (x 9) :: .v (x 10) :: .v (x 11) :: .v (x 12) :: .v (x 13) :: .v (x 14) :: .v (x 15) :: .v (x 16) :: .v (x 17) :: .v (x 18) :: .v (x 19) :: .v (x 20) :: .v (x 21) :: .v (x 22) :: .v (x 23) :: .v (x 24) :: .v (x 25) :: .v (x 26) :: .v (x 27) :: .v (x 28) :: .v (x 29) :: .v (x 30) :: .v (x 31) :: .v (.slice none 0 0) :: .v (x 33) :: []) := by
    unfold bkC
    rw [hx]
    rfl
  rw [e] at hR
  clear e
  refine sim_enter Tryz.func80 ρ [.ptr 0 0] [⟨(.v (x 0) :: .v (x 1) :: .v (x 2) :: .v (x 3) :: .v (x 4) :: .v (x 5) :: .v (x 6) :: .v (x 7) :: .v (x 8) :: .v (x 9) :: .v (x 10) :: .v (x 11) :: .v (x 12) :: .v (x 13) :: .v (x 14) :: .v (x 15) :: .v (x 16) :: .v (x 17) :: .v (x 18) :: .v (x 19) :: .v (x 20) :: .v (x 21) :: .v (x 22) :: .v (x 23) :: .v (x 24) :: .v (x 25) :: .v (x 26) :: .v (x 27) :: .v (x 28) :: .v (x 29) :: .v (x 30) :: .v (x 31) :: .v (.slice none 0 0) :: .v (x 33) :: []), false⟩] (by kernel_rfl) (by simp only [denL, LV.den, Nm.at_, e0]) ?_
  refine sim_run 10 [] (hR.cast (by kernel_rfl)) (by kernel_rfl) trivial (fun ρ16100 w16100 hm16100 hR16100 => ?_)
  refine sim_unroll 2 (by kernel_rfl) ?_
  refine sim_run 18 [] (hR16100.cast (by kernel_rfl)) (by kernel_rfl) trivial (fun ρ16101 w16101 hm16101 hR16101 => ?_)
  refine sim_ret (LB true) hR16101 (by kernel_rfl) (by kernel_rfl) ?_
  exact ⟨rfl, hR16101.toBelow⟩
  
set_option maxRecDepth 100000 in
theorem putSteps_nil (x : Nat → Value) (b : Nat) (w : World) (h : Blk w b 56 (bkC x).toArray) (hx : x 32 = nilS) : Calls Tryz.prog 84 #[.pointer (some ⟨b, 0, none⟩)] w fun e w' => e = .returned (.tuple #[]) ∧ Below w.heap.size w w' := by
  obtain ⟨ρ, e0, hR⟩ := blk_open h false [] (by simp) (by kernel_rfl)
  have e : (bkC x).map LV.v = (.v (x 0) :: .v (x 1) :: .v (x 2) :: .v (x 3) :: .v (x 4) :: .v (x 5) :: .v (x 6) :: .v (x 7) :: .v (x 8) :: .v (x 9) :: .v (x 10) :: .v (x 11) :: .v (x 12) :: .v (x 13) :: .v (x 14) :: .v (x 15) :: .v (x 16) :: .v (x 17) :: .v (x 18) :: .v (x 19) :: .v (x 20) :: .v (x 21) :: .v (x 22) :: .v (x 23) :: .v (x 24) :: .v (x 25) :: .v (x 26) :: .v (x 27) :: .v (x 28) :: .v (x 29) :: .v (x 30) :: .v (x 31) :: .v (.slice none 0 0) :: .v (x 33) :: []) := by
    unfold bkC
    rw [hx]
    rfl
  rw [e] at hR
  clear e
  refine sim_enter Tryz.func84 ρ [.ptr 0 0] [⟨(.v (x 0) :: .v (x 1) :: .v (x 2) :: .v (x 3) :: .v (x 4) :: .v (x 5) :: .v (x 6) :: .v (x 7) :: .v (x 8) :: .v (x 9) :: .v (x 10) :: .v (x 11) :: .v (x 12) :: .v (x 13) :: .v (x 14) :: .v (x 15) :: .v (x 16) :: .v (x 17) :: .v (x 18) :: .v (x 19) :: .v (x 20) :: .v (x 21) :: .v (x 22) :: .v (x 23) :: .v (x 24) :: .v (x 25) :: .v (x 26) :: .v (x 27) :: .v (x 28) :: .v (x 29) :: .v (x 30) :: .v (x 31) :: .v (.slice none 0 0) :: .v (x 33) :: []), false⟩] (by kernel_rfl) (by simp only [denL, LV.den, Nm.at_, e0]) ?_
  refine sim_run 5 [] (hR.cast (by kernel_rfl)) (by kernel_rfl) trivial (fun ρ16200 w16200 hm16200 hR16200 => ?_)
  refine sim_unroll 2 (by kernel_rfl) ?_
  refine sim_run 14 [] (hR16200.cast (by kernel_rfl)) (by kernel_rfl) trivial (fun ρ16201 w16201 hm16201 hR16201 => ?_)
  refine sim_end (.tup []) hR16201 (by kernel_rfl) (by kernel_rfl) ?_
  exact ⟨rfl, hR16201.toBelow⟩
  
set_option maxRecDepth 100000 in
theorem growSteps_nil (x : Nat → Value) (b : Nat) (w : World) (h : Blk w b 56 (bkC x).toArray) (hx : x 32 = nilS) : Calls Tryz.prog 114 #[.pointer (some ⟨b, 0, none⟩)] w fun e w' => e = .returned (.slice none 0 0) ∧ Below w.heap.size w w' := by
  obtain ⟨ρ, e0, hR⟩ := blk_open h false [] (by simp) (by kernel_rfl)
  have e : (bkC x).map LV.v = (.v (x 0) :: .v (x 1) :: .v (x 2) :: .v (x 3) :: .v (x 4) :: .v (x 5) :: .v (x 6) :: .v (x 7) :: .v (x 8) :: .v (x 9) :: .v (x 10) :: .v (x 11) :: .v (x 12) :: .v (x 13) :: .v (x 14) :: .v (x 15) :: .v (x 16) :: .v (x 17) :: .v (x 18) :: .v (x 19) :: .v (x 20) :: .v (x 21) :: .v (x 22) :: .v (x 23) :: .v (x 24) :: .v (x 25) :: .v (x 26) :: .v (x 27) :: .v (x 28) :: .v (x 29) :: .v (x 30) :: .v (x 31) :: .v (.slice none 0 0) :: .v (x 33) :: []) := by
    unfold bkC
    rw [hx]
    rfl
  rw [e] at hR
  clear e
  refine sim_enter Tryz.func114 ρ [.ptr 0 0] [⟨(.v (x 0) :: .v (x 1) :: .v (x 2) :: .v (x 3) :: .v (x 4) :: .v (x 5) :: .v (x 6) :: .v (x 7) :: .v (x 8) :: .v (x 9) :: .v (x 10) :: .v (x 11) :: .v (x 12) :: .v (x 13) :: .v (x 14) :: .v (x 15) :: .v (x 16) :: .v (x 17) :: .v (x 18) :: .v (x 19) :: .v (x 20) :: .v (x 21) :: .v (x 22) :: .v (x 23) :: .v (x 24) :: .v (x 25) :: .v (x 26) :: .v (x 27) :: .v (x 28) :: .v (x 29) :: .v (x 30) :: .v (x 31) :: .v (.slice none 0 0) :: .v (x 33) :: []), false⟩] (by kernel_rfl) (by simp only [denL, LV.den, Nm.at_, e0]) ?_
  refine sim_run 14 [] (hR.cast (by kernel_rfl)) (by kernel_rfl) trivial (fun ρ16300 w16300 hm16300 hR16300 => ?_)
  refine sim_unroll 2 (by kernel_rfl) ?_
  refine sim_run 19 [] (hR16300.cast (by kernel_rfl)) (by kernel_rfl) trivial (fun ρ16301 w16301 hm16301 hR16301 => ?_)
  refine sim_ret (.v (Value.slice none 0 0)) hR16301 (by kernel_rfl) (by kernel_rfl) ?_
  exact ⟨rfl, hR16301.toBelow⟩
  
set_option maxRecDepth 100000 in
theorem markedSteps_nil (w : World) : Calls Tryz.prog 131 #[.slice none 0 0] w fun e w' => e = .returned (.bool true) ∧ Below w.heap.size w w' := by
  refine sim_enter Tryz.func131 ρ0 [.v (.slice none 0 0)] [] (by kernel_rfl) rfl ?_
  have hR := Rel.start [] w ρ0
  refine sim_run 10 [] (hR.cast (by kernel_rfl)) (by kernel_rfl) trivial (fun ρ16400 w16400 hm16400 hR16400 => ?_)
  refine sim_unroll 2 (by kernel_rfl) ?_
  refine sim_run 15 [] (hR16400.cast (by kernel_rfl)) (by kernel_rfl) trivial (fun ρ16401 w16401 hm16401 hR16401 => ?_)
  refine sim_ret (LB true) hR16401 (by kernel_rfl) (by kernel_rfl) ?_
  exact ⟨rfl, hR16401.toBelow⟩
  
end Go.Proofs.YtedfbdeklepekaaGreat
