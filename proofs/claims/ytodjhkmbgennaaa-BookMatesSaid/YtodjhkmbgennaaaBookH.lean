/-
  book: Pair.
-/
import Derived.Test.YtodjhkmbgennaaaBookG
namespace Go.Proofs.Ytodjhkmbgennaaa
open Go Go.RowKit
attribute [local irreducible] run goO goN ordGoN eqlOf eqlOper eqlOfO cellL leaveK someK nextK nextT nextOT nextOD loopBody loopRest loopK fillJ tmplOf tmplJ mergeT At AtO drawOk ordOf gateOf callC callO topOp topO idxOf appOf storeOf clearOf sliceOf calleeOf calleeO topQ idxQ newRowOf resL stepOp seek

def pairedI (m amount : Int) (x : In) : In := { x with mate := m, term := { x.term with amount := amount } }
def pairM (xs : List In) (d r amount : Int) : List In × Int :=
  if outB xs d ∨ outB xs r then (xs, 3)
  else if (atI xs d).state ≠ 0 ∨ (atI xs r).state ≠ 0 then (xs, 20)
  else if d = r ∨ (atI xs d).term.deliver = false ∨ (atI xs r).term.deliver = true ∨ (atI xs d).term.qty ≠ (atI xs r).term.qty ∨ amount < 0 ∨ amount > 1125899906842624 then (xs, 1)
  else (updI (updI xs d (fun x => doI 0 (pairedI r amount x))) r (fun x => doI 0 (pairedI d amount x)), 0)
set_option maxRecDepth 100000 in
theorem pair_slc (g h len cap : Nat) (xs : List In) (rest : List Value) (d r amount : Int) (hd : Is64 d) (hr : Is64 r) (w : World) (hs : BkS w g h len cap xs rest) :
    Calls Try.prog 24 #[.pointer (some ⟨g, 0, none⟩), .int .i64 d, .int .i64 r, .int .i64 amount] w (BkPost w h rest (pairM xs d r amount).1 (pairM xs d r amount).2) := by
  have hl := hs.len
  have hne := hs.ne
  obtain ⟨ρ, e0, hag, hR, hrow⟩ := book_start hs
  refine sim_enter Try.func24 ρ [.ptr 0 0, LI d, LI r, LI amount] [⟨[.v (.slice (some ⟨h, 0, none⟩) len cap)], false⟩] (by kernel_rfl) (by simp only [denL, LV.den, Nm.at_, e0]) ?_
  unfold BkPost pairM
  by_cases hod : outB xs d
  · have ho : d < 1 ∨ d > len := by rw [← hl]; exact hod
    rw [if_pos (.inl hod)]
    by_cases hor : outB xs r
    · have ho2 : r < 1 ∨ r > len := by rw [← hl]; exact hor
      refine sim_run 16 [] hR (by kernel_rfl) trivial (fun ρ100 w100 hm100 hR100 => ?_)
      have hag := hag.moved hm100
      have hrow := hrow.moved hm100
      refine sim_call 49 [.ptr 0 0, LI d] (by kernel_rfl) ?_
      have ez0_101 := (hag.at_ 0 (by omega)).trans e0
      simp only [denL, LV.den, Nm.at_, ez0_101, Nat.add_zero]
      refine Calls.mono (at_out _ _ _ _ (by assumption) _ _ _ (by assumption) (by have h := (hR100.at_cell 0 0 (.v (Value.slice (some (Addr.mk h 0 none)) len cap)) (by kernel_rfl)); simp only [Nm.at_, ez0_101] at h; exact h) (fun _ => ⟨h, rfl⟩)) ?_
      rintro e101 w101 ⟨rfl, hb101⟩
      have hR101 := hR100.below hb101
      have hrow := hrow.below hb101
      refine Back.of (.v (Value.pointer none)) hR101 rfl ?_
      refine sim_run 2 [] hR101 (by kernel_rfl) trivial (fun ρ102 w102 hm102 hR102 => ?_)
      have hag := hag.moved hm102
      have hrow := hrow.moved hm102
      refine sim_call 49 [.ptr 0 0, LI r] (by kernel_rfl) ?_
      have ez0_103 := (hag.at_ 0 (by omega)).trans e0
      simp only [denL, LV.den, Nm.at_, ez0_103, Nat.add_zero]
      refine Calls.mono (at_out _ _ _ _ (by assumption) _ _ _ (by assumption) (by have h := (hR102.at_cell 0 0 (.v (Value.slice (some (Addr.mk h 0 none)) len cap)) (by kernel_rfl)); simp only [Nm.at_, ez0_103] at h; exact h) (fun _ => ⟨h, rfl⟩)) ?_
      rintro e103 w103 ⟨rfl, hb103⟩
      have hR103 := hR102.below hb103
      have hrow := hrow.below hb103
      refine Back.of (.v (Value.pointer none)) hR103 rfl ?_
      refine sim_run 20 [] hR103 (by kernel_rfl) trivial (fun ρ104 w104 hm104 hR104 => ?_)
      have hag := hag.moved hm104
      have hrow := hrow.moved hm104
      refine sim_ret (LI 3) hR104 (by kernel_rfl) (by kernel_rfl) ?_
      exact ⟨rfl, hrow.close0, hR104.keeps.kept⟩
      
    · have ho2 : ¬(r < 1 ∨ r > len) := by rw [← hl]; exact hor
      refine sim_run 16 [] hR (by kernel_rfl) trivial (fun ρ200 w200 hm200 hR200 => ?_)
      have hag := hag.moved hm200
      have hrow := hrow.moved hm200
      refine sim_call 49 [.ptr 0 0, LI d] (by kernel_rfl) ?_
      have ez0_201 := (hag.at_ 0 (by omega)).trans e0
      simp only [denL, LV.den, Nm.at_, ez0_201, Nat.add_zero]
      refine Calls.mono (at_out _ _ _ _ (by assumption) _ _ _ (by assumption) (by have h := (hR200.at_cell 0 0 (.v (Value.slice (some (Addr.mk h 0 none)) len cap)) (by kernel_rfl)); simp only [Nm.at_, ez0_201] at h; exact h) (fun _ => ⟨h, rfl⟩)) ?_
      rintro e201 w201 ⟨rfl, hb201⟩
      have hR201 := hR200.below hb201
      have hrow := hrow.below hb201
      refine Back.of (.v (Value.pointer none)) hR201 rfl ?_
      refine sim_run 2 [] hR201 (by kernel_rfl) trivial (fun ρ202 w202 hm202 hR202 => ?_)
      have hag := hag.moved hm202
      have hrow := hrow.moved hm202
      refine sim_call 49 [.ptr 0 0, LI r] (by kernel_rfl) ?_
      have ez0_203 := (hag.at_ 0 (by omega)).trans e0
      simp only [denL, LV.den, Nm.at_, ez0_203, Nat.add_zero]
      refine Calls.mono (at_in _ _ _ _ (by assumption) _ _ _ (by assumption) (by have h := (hR202.at_cell 0 0 (.v (Value.slice (some (Addr.mk h 0 none)) len cap)) (by kernel_rfl)); simp only [Nm.at_, ez0_203] at h; exact h)) ?_
      rintro e203 w203 ⟨rfl, hb203⟩
      have hR203 := hR202.below hb203
      have hrow := hrow.below hb203
      refine Back.of (.v (Value.pointer (some (Addr.mk h ((r - 1).toNat * 21) none)))) hR203 rfl ?_
      refine sim_run 20 [] hR203 (by kernel_rfl) trivial (fun ρ204 w204 hm204 hR204 => ?_)
      have hag := hag.moved hm204
      have hrow := hrow.moved hm204
      refine sim_ret (LI 3) hR204 (by kernel_rfl) (by kernel_rfl) ?_
      exact ⟨rfl, hrow.close0, hR204.keeps.kept⟩
      
  · have ho : ¬(d < 1 ∨ d > len) := by rw [← hl]; exact hod
    by_cases hor : outB xs r
    · have ho2 : r < 1 ∨ r > len := by rw [← hl]; exact hor
      rw [if_pos (.inr hor)]
      refine sim_run 16 [] hR (by kernel_rfl) trivial (fun ρ300 w300 hm300 hR300 => ?_)
      have hag := hag.moved hm300
      have hrow := hrow.moved hm300
      refine sim_call 49 [.ptr 0 0, LI d] (by kernel_rfl) ?_
      have ez0_301 := (hag.at_ 0 (by omega)).trans e0
      simp only [denL, LV.den, Nm.at_, ez0_301, Nat.add_zero]
      refine Calls.mono (at_in _ _ _ _ (by assumption) _ _ _ (by assumption) (by have h := (hR300.at_cell 0 0 (.v (Value.slice (some (Addr.mk h 0 none)) len cap)) (by kernel_rfl)); simp only [Nm.at_, ez0_301] at h; exact h)) ?_
      rintro e301 w301 ⟨rfl, hb301⟩
      have hR301 := hR300.below hb301
      have hrow := hrow.below hb301
      refine Back.of (.v (Value.pointer (some (Addr.mk h ((d - 1).toNat * 21) none)))) hR301 rfl ?_
      refine sim_run 2 [] hR301 (by kernel_rfl) trivial (fun ρ302 w302 hm302 hR302 => ?_)
      have hag := hag.moved hm302
      have hrow := hrow.moved hm302
      refine sim_call 49 [.ptr 0 0, LI r] (by kernel_rfl) ?_
      have ez0_303 := (hag.at_ 0 (by omega)).trans e0
      simp only [denL, LV.den, Nm.at_, ez0_303, Nat.add_zero]
      refine Calls.mono (at_out _ _ _ _ (by assumption) _ _ _ (by assumption) (by have h := (hR302.at_cell 0 0 (.v (Value.slice (some (Addr.mk h 0 none)) len cap)) (by kernel_rfl)); simp only [Nm.at_, ez0_303] at h; exact h) (fun _ => ⟨h, rfl⟩)) ?_
      rintro e303 w303 ⟨rfl, hb303⟩
      have hR303 := hR302.below hb303
      have hrow := hrow.below hb303
      refine Back.of (.v (Value.pointer none)) hR303 rfl ?_
      refine sim_run 20 [] hR303 (by kernel_rfl) trivial (fun ρ304 w304 hm304 hR304 => ?_)
      have hag := hag.moved hm304
      have hrow := hrow.moved hm304
      refine sim_ret (LI 3) hR304 (by kernel_rfl) (by kernel_rfl) ?_
      exact ⟨rfl, hrow.close0, hR304.keeps.kept⟩
      
    · have ho2 : ¬(r < 1 ∨ r > len) := by rw [← hl]; exact hor
      rw [if_neg (fun hc => hc.elim hod hor)]
      by_cases hdr : d = r
      · subst hdr
        refine sim_run 16 [] hR (by kernel_rfl) trivial (fun ρ400 w400 hm400 hR400 => ?_)
        have hag := hag.moved hm400
        have hrow := hrow.moved hm400
        refine sim_call 49 [.ptr 0 0, LI d] (by kernel_rfl) ?_
        have ez0_401 := (hag.at_ 0 (by omega)).trans e0
        simp only [denL, LV.den, Nm.at_, ez0_401, Nat.add_zero]
        refine Calls.mono (at_in _ _ _ _ (by assumption) _ _ _ (by assumption) (by have h := (hR400.at_cell 0 0 (.v (Value.slice (some (Addr.mk h 0 none)) len cap)) (by kernel_rfl)); simp only [Nm.at_, ez0_401] at h; exact h)) ?_
        rintro e401 w401 ⟨rfl, hb401⟩
        have hQ401 := hR400.below hb401
        have hrow := hrow.below hb401
        refine Back.elem _ 1 hrow hag (by kernel_rfl) (by omega) (by simp; try omega) (.inl (by simp)) hQ401 (by kernel_rfl) [0] (by kernel_rfl) (by intro k hk; simp only [List.mem_singleton] at hk; subst hk; rw [e0]; exact ⟨by omega, hne⟩) rfl (fun x401 ρ401 hx401 ha401 e401 hag hR401 hrow => ?_)
        obtain rfl := atI_of hx401
        have e0 := (ha401 0 (by omega)).trans e0
        refine sim_run 2 [] hR401 (by kernel_rfl) trivial (fun ρ402 w402 hm402 hR402 => ?_)
        have hag := hag.moved hm402
        have hrow := hrow.moved hm402
        
        refine sim_call 49 [.ptr 0 0, LI d] (by kernel_rfl) ?_
        have ez0_700 := (hag.at_ 0 (by omega)).trans e0
        simp only [denL, LV.den, Nm.at_, ez0_700, Nat.add_zero]
        refine Calls.mono (at_in _ _ _ _ (by assumption) _ _ _ (by assumption) (by have h := (hR402.at_cell 0 0 (.v (Value.slice (some (Addr.mk h 0 none)) len cap)) (by kernel_rfl)); simp only [Nm.at_, ez0_700] at h; exact h)) ?_
        rintro e700 w700 ⟨rfl, hb700⟩
        have hR700 := hR402.below hb700
        have hrow := hrow.below hb700
        refine Back.of (.ptr 1 0) hR700 (by simp only [LV.den, Nm.at_, hag.at_ 1 (by omega), e401, Nat.add_zero]) ?_
        refine sim_run 24 [] hR700 (by kernel_rfl) trivial (fun ρ701 w701 hm701 hR701 => ?_)
        have hag := hag.moved hm701
        have hrow := hrow.moved hm701
        refine sim_fork 32 ((atI xs d).state != 0) (by kernel_rfl) (fun hq702 => ?_) (fun hq702 => ?_)
        have hq702 := nb_t hq702
        have hq702 := of_decide_eq_false hq702
        refine sim_run 13 [] hR701 (by kernel_rfl) trivial (fun ρ703 w703 hm703 hR703 => ?_)
        have hag := hag.moved hm703
        have hrow := hrow.moved hm703
        refine sim_ret (LI 20) hR703 (by kernel_rfl) (by kernel_rfl) ?_
        rotate_left
        have hq702 := nb_f hq702
        have hq702 := of_decide_eq_true hq702
        refine sim_run 8 [] hR701 (by kernel_rfl) trivial (fun ρ704 w704 hm704 hR704 => ?_)
        have hag := hag.moved hm704
        have hrow := hrow.moved hm704
        refine sim_know 26 ((atI xs d).state != 0) false (by kernel_rfl) (by assumption) ?_
        refine sim_run 8 [] hR704 (by kernel_rfl) trivial (fun ρ705 w705 hm705 hR705 => ?_)
        have hag := hag.moved hm705
        have hrow := hrow.moved hm705
        refine sim_ret (LI 1) hR705 (by kernel_rfl) (by kernel_rfl) ?_
        rotate_left
        
        · rw [if_pos (.inl hq702)]
          exact ⟨rfl, hrow.same1 hod (bk_cell hR703 hag e401 _ (by kernel_rfl)), hR703.keeps.kept⟩
        · rw [if_neg (fun hc => hc.elim (fun h => h hq702) (fun h => h hq702)), if_pos (.inl trivial)]
          exact ⟨rfl, hrow.same1 hod (bk_cell hR705 hag e401 _ (by kernel_rfl)), hR705.keeps.kept⟩
      · refine sim_run 16 [] hR (by kernel_rfl) trivial (fun ρ500 w500 hm500 hR500 => ?_)
        have hag := hag.moved hm500
        have hrow := hrow.moved hm500
        refine sim_call 49 [.ptr 0 0, LI d] (by kernel_rfl) ?_
        have ez0_501 := (hag.at_ 0 (by omega)).trans e0
        simp only [denL, LV.den, Nm.at_, ez0_501, Nat.add_zero]
        refine Calls.mono (at_in _ _ _ _ (by assumption) _ _ _ (by assumption) (by have h := (hR500.at_cell 0 0 (.v (Value.slice (some (Addr.mk h 0 none)) len cap)) (by kernel_rfl)); simp only [Nm.at_, ez0_501] at h; exact h)) ?_
        rintro e501 w501 ⟨rfl, hb501⟩
        have hQ501 := hR500.below hb501
        have hrow := hrow.below hb501
        refine Back.elem _ 1 hrow hag (by kernel_rfl) (by omega) (by simp; try omega) (.inl (by simp)) hQ501 (by kernel_rfl) [0] (by kernel_rfl) (by intro k hk; simp only [List.mem_singleton] at hk; subst hk; rw [e0]; exact ⟨by omega, hne⟩) rfl (fun x501 ρ501 hx501 ha501 e501 hag hR501 hrow => ?_)
        obtain rfl := atI_of hx501
        have e0 := (ha501 0 (by omega)).trans e0
        refine sim_run 2 [] hR501 (by kernel_rfl) trivial (fun ρ502 w502 hm502 hR502 => ?_)
        have hag := hag.moved hm502
        have hrow := hrow.moved hm502
        refine sim_call 49 [.ptr 0 0, LI r] (by kernel_rfl) ?_
        have ez0_503 := (hag.at_ 0 (by omega)).trans e0
        simp only [denL, LV.den, Nm.at_, ez0_503, Nat.add_zero]
        refine Calls.mono (at_in _ _ _ _ (by assumption) _ _ _ (by assumption) (by have h := (hR502.at_cell 0 0 (.v (Value.slice (some (Addr.mk h 0 none)) len cap)) (by kernel_rfl)); simp only [Nm.at_, ez0_503] at h; exact h)) ?_
        rintro e503 w503 ⟨rfl, hb503⟩
        have hQ503 := hR502.below hb503
        have hrow := hrow.below hb503
        refine Back.elem _ 2 hrow hag (by kernel_rfl) (by omega) (by simp; try omega) (.inl (by simp)) hQ503 (by kernel_rfl) [0] (by kernel_rfl) (by intro k hk; simp only [List.mem_singleton] at hk; subst hk; rw [e0]; exact ⟨by omega, hne⟩) rfl (fun x503 ρ503 hx503 ha503 e503 hag hR503 hrow => ?_)
        obtain rfl := atI_of hx503
        have e0 := (ha503 0 (by omega)).trans e0
        have e501 := (ha503 1 (by omega)).trans e501
        refine sim_run 24 [] hR503 (by kernel_rfl) trivial (fun ρ504 w504 hm504 hR504 => ?_)
        have hag := hag.moved hm504
        have hrow := hrow.moved hm504
        refine sim_fork 32 ((atI xs d).state != 0) (by kernel_rfl) (fun hq505 => ?_) (fun hq505 => ?_)
        have hq505 := nb_t hq505
        have hq505 := of_decide_eq_false hq505
        refine sim_run 13 [] hR504 (by kernel_rfl) trivial (fun ρ506 w506 hm506 hR506 => ?_)
        have hag := hag.moved hm506
        have hrow := hrow.moved hm506
        refine sim_ret (LI 20) hR506 (by kernel_rfl) (by kernel_rfl) ?_
        rotate_left
        have hq505 := nb_f hq505
        have hq505 := of_decide_eq_true hq505
        refine sim_run 8 [] hR504 (by kernel_rfl) trivial (fun ρ507 w507 hm507 hR507 => ?_)
        have hag := hag.moved hm507
        have hrow := hrow.moved hm507
        refine sim_fork 26 ((atI xs r).state != 0) (by kernel_rfl) (fun hq508 => ?_) (fun hq508 => ?_)
        have hq508 := nb_t hq508
        have hq508 := of_decide_eq_false hq508
        refine sim_run 5 [] hR507 (by kernel_rfl) trivial (fun ρ509 w509 hm509 hR509 => ?_)
        have hag := hag.moved hm509
        have hrow := hrow.moved hm509
        refine sim_ret (LI 20) hR509 (by kernel_rfl) (by kernel_rfl) ?_
        rotate_left
        have hq508 := nb_f hq508
        have hq508 := of_decide_eq_true hq508
        refine sim_run 2 [] hR507 (by kernel_rfl) trivial (fun ρ510 w510 hm510 hR510 => ?_)
        have hag := hag.moved hm510
        have hrow := hrow.moved hm510
        refine sim_draw [] (by kernel_rfl) (by kernel_rfl) hR510 (fun hR511 => ?_)
        have hrow := hrow.drew
        refine sim_ordN 2 [] hR511 (by kernel_rfl) trivial (fun ρ512 w512 hm512 hR512 => ?_)
        have hag := hag.moved hm512
        have hrow := hrow.moved hm512
        rotate_left
        
        · rw [if_pos (.inl hq505)]
          exact ⟨rfl, hrow.same2 hod hor hdr (bk_cell hR506 hag e501 _ (by kernel_rfl)) (bk_cell hR506 hag e503 _ (by kernel_rfl)), hR506.keeps.kept⟩
        · rw [if_pos (.inr hq508)]
          exact ⟨rfl, hrow.same2 hod hor hdr (bk_cell hR509 hag e501 _ (by kernel_rfl)) (bk_cell hR509 hag e503 _ (by kernel_rfl)), hR509.keeps.kept⟩
        · rw [if_neg (fun hc => hc.elim (fun h => h hq505) (fun h => h hq508))]
          refine sim_ord_eql_ne (.ptr 1 0) (.ptr 2 0) true (by kernel_rfl) hR512 (plI h d) (plI h r) (by simp only [LV.den, Nm.at_, hag.at_ 1 (by omega), e501, plI, Nat.add_zero]) (by simp only [LV.den, Nm.at_, hag.at_ 2 (by omega), e503, plI, Nat.add_zero]) rfl (plI_ne (by omega) (by omega) hdr) (fun hR600 => ?_)
          refine sim_ordN 9 [] hR600 (by kernel_rfl) trivial (fun ρ600 w600 hm600 hR600 => ?_)
          have hag := hag.moved hm600
          have hrow := hrow.moved hm600
          refine sim_forkO hR600 51 (!(atI xs d).term.deliver) (by kernel_rfl) (fun hq601 hR601 => ?_) (fun hq601 hR601 => ?_)
          have hq601 := nb_t hq601
          refine sim_ordN 28 [] hR601 (by kernel_rfl) trivial (fun ρ602 w602 hm602 hR602 => ?_)
          have hag := hag.moved hm602
          have hrow := hrow.moved hm602
          refine sim_ord_endR hR602 (by kernel_rfl) (fun hR603 => ?_)
          refine sim_run 5 [] hR603 (by kernel_rfl) trivial (fun ρ604 w604 hm604 hR604 => ?_)
          have hag := hag.moved hm604
          have hrow := hrow.moved hm604
          refine sim_ret (LI 1) hR604 (by kernel_rfl) (by kernel_rfl) ?_
          rotate_left
          have hq601 := nb_f hq601
          refine sim_ordN 7 [] hR601 (by kernel_rfl) trivial (fun ρ605 w605 hm605 hR605 => ?_)
          have hag := hag.moved hm605
          have hrow := hrow.moved hm605
          refine sim_forkO hR605 58 ((atI xs r).term.deliver) (by kernel_rfl) (fun hq606 hR606 => ?_) (fun hq606 hR606 => ?_)
          refine sim_ordN 21 [] hR606 (by kernel_rfl) trivial (fun ρ607 w607 hm607 hR607 => ?_)
          have hag := hag.moved hm607
          have hrow := hrow.moved hm607
          refine sim_ord_endR hR607 (by kernel_rfl) (fun hR608 => ?_)
          refine sim_run 5 [] hR608 (by kernel_rfl) trivial (fun ρ609 w609 hm609 hR609 => ?_)
          have hag := hag.moved hm609
          have hrow := hrow.moved hm609
          refine sim_ret (LI 1) hR609 (by kernel_rfl) (by kernel_rfl) ?_
          rotate_left
          refine sim_ordN 13 [] hR606 (by kernel_rfl) trivial (fun ρ610 w610 hm610 hR610 => ?_)
          have hag := hag.moved hm610
          have hrow := hrow.moved hm610
          refine sim_forkO hR610 71 ((atI xs d).term.qty != (atI xs r).term.qty) (by kernel_rfl) (fun hq611 hR611 => ?_) (fun hq611 hR611 => ?_)
          have hq611 := nb_t hq611
          have hq611 := of_decide_eq_false hq611
          refine sim_ordN 8 [] hR611 (by kernel_rfl) trivial (fun ρ612 w612 hm612 hR612 => ?_)
          have hag := hag.moved hm612
          have hrow := hrow.moved hm612
          refine sim_ord_endR hR612 (by kernel_rfl) (fun hR613 => ?_)
          refine sim_run 5 [] hR613 (by kernel_rfl) trivial (fun ρ614 w614 hm614 hR614 => ?_)
          have hag := hag.moved hm614
          have hrow := hrow.moved hm614
          refine sim_ret (LI 1) hR614 (by kernel_rfl) (by kernel_rfl) ?_
          rotate_left
          have hq611 := nb_f hq611
          have hq611 := of_decide_eq_true hq611
          refine sim_ordN 4 [] hR611 (by kernel_rfl) trivial (fun ρ615 w615 hm615 hR615 => ?_)
          have hag := hag.moved hm615
          have hrow := hrow.moved hm615
          refine sim_forkO hR615 75 (decide (amount < 0)) (by kernel_rfl) (fun hq616 hR616 => ?_) (fun hq616 hR616 => ?_)
          have hq616 := of_decide_eq_true hq616
          refine sim_ordN 4 [] hR616 (by kernel_rfl) trivial (fun ρ617 w617 hm617 hR617 => ?_)
          have hag := hag.moved hm617
          have hrow := hrow.moved hm617
          refine sim_ord_endR hR617 (by kernel_rfl) (fun hR618 => ?_)
          refine sim_run 5 [] hR618 (by kernel_rfl) trivial (fun ρ619 w619 hm619 hR619 => ?_)
          have hag := hag.moved hm619
          have hrow := hrow.moved hm619
          refine sim_ret (LI 1) hR619 (by kernel_rfl) (by kernel_rfl) ?_
          rotate_left
          have hq616 := of_decide_eq_false hq616
          refine sim_ordN 4 [] hR616 (by kernel_rfl) trivial (fun ρ620 w620 hm620 hR620 => ?_)
          have hag := hag.moved hm620
          have hrow := hrow.moved hm620
          refine sim_ord_endR hR620 (by kernel_rfl) (fun hR621 => ?_)
          refine sim_fork 39 (decide (amount > 1125899906842624)) (by kernel_rfl) (fun hq622 => ?_) (fun hq622 => ?_)
          have hq622 := of_decide_eq_true hq622
          refine sim_run 5 [] hR621 (by kernel_rfl) trivial (fun ρ623 w623 hm623 hR623 => ?_)
          have hag := hag.moved hm623
          have hrow := hrow.moved hm623
          refine sim_ret (LI 1) hR623 (by kernel_rfl) (by kernel_rfl) ?_
          rotate_left
          have hq622 := of_decide_eq_false hq622
          refine sim_run 33 [] hR621 (by kernel_rfl) trivial (fun ρ624 w624 hm624 hR624 => ?_)
          have hag := hag.moved hm624
          have hrow := hrow.moved hm624
          refine sim_into Try.func50 [LI 0, .slc 3 0 2 2] (by kernel_rfl) (by kernel_rfl) ?_
          have hag625 := hR624.ag_ 4 (by kernel_rfl)
          refine sim_run 16 [] hR624 (by kernel_rfl) trivial (fun ρ626 w626 hm626 hR626 => ?_)
          have hag := hag.moved hm626
          have hrow := hrow.moved hm626
          have hag625 := hag625.moved hm626
          refine sim_unroll 3 (by kernel_rfl) ?_
          refine sim_run 12 [] hR626 (by kernel_rfl) trivial (fun ρ627 w627 hm627 hR627 => ?_)
          have hag := hag.moved hm627
          have hrow := hrow.moved hm627
          have hag625 := hag625.moved hm627
          refine sim_idx 3 0 2 2 0 1 (by kernel_rfl) (by omega) ?_
          refine sim_run 18 [] hR627 (by kernel_rfl) trivial (fun ρ628 w628 hm628 hR628 => ?_)
          have hag := hag.moved hm628
          have hrow := hrow.moved hm628
          have hag625 := hag625.moved hm628
          refine sim_call 63 [LI ((atI xs d).state), LI 0] (by kernel_rfl) ?_
          refine Calls.mono (next_any _ _ _) ?_
          rintro e629 w629 ⟨rfl, hb629⟩
          have hR629 := hR628.below hb629
          have hrow := hrow.below hb629
          refine Back.of (.tup [LI ((nextM (atI xs d).state 0).fst), LB ((nextM (atI xs d).state 0).snd)]) hR629 rfl ?_
          refine sim_run 10 [] hR629 (by kernel_rfl) trivial (fun ρ630 w630 hm630 hR630 => ?_)
          have hag := hag.moved hm630
          have hag625 := hag625.moved hm630
          have hrow := hrow.moved hm630
          refine sim_fork 27 ((nextM (atI xs d).state 0).snd) (by kernel_rfl) (fun hq631 => ?_) (fun hq631 => ?_)
          refine sim_run 31 [] hR630 (by kernel_rfl) trivial (fun ρ632 w632 hm632 hR632 => ?_)
          have hag := hag.moved hm632
          have hag625 := hag625.moved hm632
          have hrow := hrow.moved hm632
          refine sim_idx 3 0 2 2 1 1 (by kernel_rfl) (by omega) ?_
          refine sim_run 18 [] hR632 (by kernel_rfl) trivial (fun ρ633 w633 hm633 hR633 => ?_)
          have hag := hag.moved hm633
          have hag625 := hag625.moved hm633
          have hrow := hrow.moved hm633
          refine sim_call 63 [LI ((atI xs r).state), LI 0] (by kernel_rfl) ?_
          refine Calls.mono (next_any _ _ _) ?_
          rintro e634 w634 ⟨rfl, hb634⟩
          have hR634 := hR633.below hb634
          have hrow := hrow.below hb634
          refine Back.of (.tup [LI ((nextM (atI xs r).state 0).fst), LB ((nextM (atI xs r).state 0).snd)]) hR634 rfl ?_
          refine sim_run 10 [] hR634 (by kernel_rfl) trivial (fun ρ635 w635 hm635 hR635 => ?_)
          have hag := hag.moved hm635
          have hag625 := hag625.moved hm635
          have hrow := hrow.moved hm635
          refine sim_fork 27 ((nextM (atI xs r).state 0).snd) (by kernel_rfl) (fun hq636 => ?_) (fun hq636 => ?_)
          refine sim_run 32 [] hR635 (by kernel_rfl) trivial (fun ρ637 w637 hm637 hR637 => ?_)
          have hag := hag.moved hm637
          have hag625 := hag625.moved hm637
          have hrow := hrow.moved hm637
          refine sim_out 4 (LI 2) hR637 (by kernel_rfl) (by kernel_rfl) hag625.ag (by kernel_rfl) ?_
          refine sim_run 5 [] hR637 (by kernel_rfl) trivial (fun ρ638 w638 hm638 hR638 => ?_)
          have hag := hag.moved hm638
          have hag625 := hag625.moved hm638
          have hrow := hrow.moved hm638
          refine sim_ret (LI 0) hR638 (by kernel_rfl) (by kernel_rfl) ?_
          rotate_left
          refine sim_run 20 [] hR635 (by kernel_rfl) trivial (fun ρ639 w639 hm639 hR639 => ?_)
          have hag := hag.moved hm639
          have hag625 := hag625.moved hm639
          have hrow := hrow.moved hm639
          refine sim_out 4 (LI 1) hR639 (by kernel_rfl) (by kernel_rfl) hag625.ag (by kernel_rfl) ?_
          refine sim_run 5 [] hR639 (by kernel_rfl) trivial (fun ρ640 w640 hm640 hR640 => ?_)
          have hag := hag.moved hm640
          have hag625 := hag625.moved hm640
          have hrow := hrow.moved hm640
          refine sim_ret (LI 0) hR640 (by kernel_rfl) (by kernel_rfl) ?_
          rotate_left
          refine sim_run 19 [] hR630 (by kernel_rfl) trivial (fun ρ641 w641 hm641 hR641 => ?_)
          have hag := hag.moved hm641
          have hag625 := hag625.moved hm641
          have hrow := hrow.moved hm641
          refine sim_idx 3 0 2 2 1 1 (by kernel_rfl) (by omega) ?_
          refine sim_run 18 [] hR641 (by kernel_rfl) trivial (fun ρ642 w642 hm642 hR642 => ?_)
          have hag := hag.moved hm642
          have hag625 := hag625.moved hm642
          have hrow := hrow.moved hm642
          refine sim_call 63 [LI ((atI xs r).state), LI 0] (by kernel_rfl) ?_
          refine Calls.mono (next_any _ _ _) ?_
          rintro e643 w643 ⟨rfl, hb643⟩
          have hR643 := hR642.below hb643
          have hrow := hrow.below hb643
          refine Back.of (.tup [LI ((nextM (atI xs r).state 0).fst), LB ((nextM (atI xs r).state 0).snd)]) hR643 rfl ?_
          refine sim_run 10 [] hR643 (by kernel_rfl) trivial (fun ρ644 w644 hm644 hR644 => ?_)
          have hag := hag.moved hm644
          have hag625 := hag625.moved hm644
          have hrow := hrow.moved hm644
          refine sim_fork 27 ((nextM (atI xs r).state 0).snd) (by kernel_rfl) (fun hq645 => ?_) (fun hq645 => ?_)
          refine sim_run 32 [] hR644 (by kernel_rfl) trivial (fun ρ646 w646 hm646 hR646 => ?_)
          have hag := hag.moved hm646
          have hag625 := hag625.moved hm646
          have hrow := hrow.moved hm646
          refine sim_out 4 (LI 1) hR646 (by kernel_rfl) (by kernel_rfl) hag625.ag (by kernel_rfl) ?_
          refine sim_run 5 [] hR646 (by kernel_rfl) trivial (fun ρ647 w647 hm647 hR647 => ?_)
          have hag := hag.moved hm647
          have hag625 := hag625.moved hm647
          have hrow := hrow.moved hm647
          refine sim_ret (LI 0) hR647 (by kernel_rfl) (by kernel_rfl) ?_
          rotate_left
          refine sim_run 20 [] hR644 (by kernel_rfl) trivial (fun ρ648 w648 hm648 hR648 => ?_)
          have hag := hag.moved hm648
          have hag625 := hag625.moved hm648
          have hrow := hrow.moved hm648
          refine sim_out 4 (LI 0) hR648 (by kernel_rfl) (by kernel_rfl) hag625.ag (by kernel_rfl) ?_
          refine sim_run 5 [] hR648 (by kernel_rfl) trivial (fun ρ649 w649 hm649 hR649 => ?_)
          have hag := hag.moved hm649
          have hag625 := hag625.moved hm649
          have hrow := hrow.moved hm649
          refine sim_ret (LI 0) hR649 (by kernel_rfl) (by kernel_rfl) ?_
          rotate_left
          
          · rw [if_pos (.inr (.inl hq601))]
            exact ⟨rfl, hrow.same2 hod hor hdr (bk_cell hR604 hag e501 _ (by kernel_rfl)) (bk_cell hR604 hag e503 _ (by kernel_rfl)), hR604.keeps.kept⟩
          · rw [if_pos (.inr (.inr (.inl hq606)))]
            exact ⟨rfl, hrow.same2 hod hor hdr (bk_cell hR609 hag e501 _ (by kernel_rfl)) (bk_cell hR609 hag e503 _ (by kernel_rfl)), hR609.keeps.kept⟩
          · rw [if_pos (.inr (.inr (.inr (.inl hq611))))]
            exact ⟨rfl, hrow.same2 hod hor hdr (bk_cell hR614 hag e501 _ (by kernel_rfl)) (bk_cell hR614 hag e503 _ (by kernel_rfl)), hR614.keeps.kept⟩
          · rw [if_pos (.inr (.inr (.inr (.inr (.inl hq616)))))]
            exact ⟨rfl, hrow.same2 hod hor hdr (bk_cell hR619 hag e501 _ (by kernel_rfl)) (bk_cell hR619 hag e503 _ (by kernel_rfl)), hR619.keeps.kept⟩
          · rw [if_pos (.inr (.inr (.inr (.inr (.inr hq622)))))]
            exact ⟨rfl, hrow.same2 hod hor hdr (bk_cell hR623 hag e501 _ (by kernel_rfl)) (bk_cell hR623 hag e503 _ (by kernel_rfl)), hR623.keeps.kept⟩
          · rw [if_neg (by rintro (h | h | h | h | h | h); exact hdr h; rw [hq601] at h; cases h; rw [hq606] at h; cases h; exact h hq611; exact hq616 h; exact hq622 h), upd2_eq hod hor (fun e => hdr e.symm)]
            refine ⟨rfl, ?_, hR638.keeps.kept⟩
            rw [doI_t (x := pairedI r amount (atI xs d)) hq631, doI_t (x := pairedI d amount (atI xs r)) hq636]
            exact hrow.close2 (by omega) (by omega) (by omega) ({ pairedI r amount (atI xs d) with state := (nextM (atI xs d).state 0).1 }) ({ pairedI d amount (atI xs r) with state := (nextM (atI xs r).state 0).1 }) (bk_cell hR638 hag e501 _ (by kernel_rfl)) (bk_cell hR638 hag e503 _ (by kernel_rfl))
          · rw [if_neg (by rintro (h | h | h | h | h | h); exact hdr h; rw [hq601] at h; cases h; rw [hq606] at h; cases h; exact h hq611; exact hq616 h; exact hq622 h), upd2_eq hod hor (fun e => hdr e.symm)]
            refine ⟨rfl, ?_, hR640.keeps.kept⟩
            rw [doI_t (x := pairedI r amount (atI xs d)) hq631, doI_f (x := pairedI d amount (atI xs r)) hq636]
            exact hrow.close2 (by omega) (by omega) (by omega) ({ pairedI r amount (atI xs d) with state := (nextM (atI xs d).state 0).1 }) (pairedI d amount (atI xs r)) (bk_cell hR640 hag e501 _ (by kernel_rfl)) (bk_cell hR640 hag e503 _ (by kernel_rfl))
          · rw [if_neg (by rintro (h | h | h | h | h | h); exact hdr h; rw [hq601] at h; cases h; rw [hq606] at h; cases h; exact h hq611; exact hq616 h; exact hq622 h), upd2_eq hod hor (fun e => hdr e.symm)]
            refine ⟨rfl, ?_, hR647.keeps.kept⟩
            rw [doI_f (x := pairedI r amount (atI xs d)) hq631, doI_t (x := pairedI d amount (atI xs r)) hq645]
            exact hrow.close2 (by omega) (by omega) (by omega) (pairedI r amount (atI xs d)) ({ pairedI d amount (atI xs r) with state := (nextM (atI xs r).state 0).1 }) (bk_cell hR647 hag e501 _ (by kernel_rfl)) (bk_cell hR647 hag e503 _ (by kernel_rfl))
          · rw [if_neg (by rintro (h | h | h | h | h | h); exact hdr h; rw [hq601] at h; cases h; rw [hq606] at h; cases h; exact h hq611; exact hq616 h; exact hq622 h), upd2_eq hod hor (fun e => hdr e.symm)]
            refine ⟨rfl, ?_, hR649.keeps.kept⟩
            rw [doI_f (x := pairedI r amount (atI xs d)) hq631, doI_f (x := pairedI d amount (atI xs r)) hq645]
            exact hrow.close2 (by omega) (by omega) (by omega) (pairedI r amount (atI xs d)) (pairedI d amount (atI xs r)) (bk_cell hR649 hag e501 _ (by kernel_rfl)) (bk_cell hR649 hag e503 _ (by kernel_rfl))
end Go.Proofs.Ytodjhkmbgennaaa
