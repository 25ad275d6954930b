/-
  Whatever is done, mates have the same state, done and paid, and each other; what is done lies within what is to be done: for every list of steps.
-/
import Derived.Test.YtodjhkmbgennaaaBookMatesA
namespace Go.Proofs.Ytodjhkmbgennaaa
open Go Go.RowKit
attribute [local irreducible] run goO goN ordGoN eqlOf eqlOper eqlOfO cellL leaveK someK nextK nextT nextOT nextOD loopBody loopRest loopK fillJ tmplOf tmplJ mergeT At AtO drawOk ordOf gateOf callC callO topOp topO idxOf appOf storeOf clearOf sliceOf calleeOf calleeO topQ idxQ newRowOf resL stepOp seek

set_option maxRecDepth 100000 in
set_option maxHeartbeats 4000000 in
theorem bookMates_walk (w : World) (A : Option Addr) (n cp M : Nat) (os : List OpR) (hM : M ≤ 140737488355328) (h : Ops w A n M os) : Calls Try.prog 8 #[.slice A n cp] w fun e w' => e = .returned (.bool true) ∧ Below w.heap.size w w' := by
  have hmax := h.max
  refine sim_enter Try.func8 ρ0 [.v (.slice A n cp)] [] (by kernel_rfl) rfl ?_
  have hR := Rel.start [] w ρ0
  refine sim_run 8 [] hR (by kernel_rfl) trivial (fun ρ100 w100 hm100 hR100 => ?_)
  refine sim_call 27 [.v (Value.slice A n cp)] (by kernel_rfl) ?_
  refine Calls.mono (light14_any _ _ _ _ _ _ (h.at_ hR100.toBelow)) ?_
  rintro e101 w101 ⟨rfl, hb101⟩
  have hR101 := hR100.below hb101
  refine Back.of (LB (lightB os)) hR101 rfl ?_
  refine sim_run 2 [] hR101 (by kernel_rfl) trivial (fun ρ102 w102 hm102 hR102 => ?_)
  refine sim_fork 13 (!lightB os) (by kernel_rfl) (fun hq103 => ?_) (fun hq103 => ?_)
  have hq103 := nb_t hq103
  refine sim_run 3 [] hR102 (by kernel_rfl) trivial (fun ρ104 w104 hm104 hR104 => ?_)
  refine sim_call 20 [] (by kernel_rfl) ?_
  refine Calls.mono (alive14_any _) ?_
  rintro e105 w105 ⟨rfl, hb105⟩
  have hR105 := hR104.below hb105
  refine Back.of (LB true) hR105 rfl ?_
  refine sim_run 2 [] hR105 (by kernel_rfl) trivial (fun ρ106 w106 hm106 hR106 => ?_)
  refine sim_ret (LB true) hR106 (by kernel_rfl) (by kernel_rfl) ?_
  exact ⟨rfl, hR106.toBelow⟩
  have hq103 := nb_f hq103
  refine sim_run 4 [] hR102 (by kernel_rfl) trivial (fun ρ107 w107 hm107 hR107 => ?_)
  refine sim_call 19 [] (by kernel_rfl) ?_
  refine Calls.mono (new_any _) ?_
  rintro e108 w108 ⟨g, rfl, hg108, hb108, hbel108⟩
  have hBw := hR107.keeps.size
  have hbk := BkO.new hR107 hg108 hb108
  have hR108 := hR107.below hbel108
  refine Back.of (.v (Value.pointer (some (Addr.mk g 0 none)))) hR108 rfl ?_
  refine sim_run 16 [] hR108 (by kernel_rfl) trivial (fun ρ109 w109 hm109 hR109 => ?_)
  have hbk := hbk.moved hm109
  
  obtain ⟨hn200, hall⟩ := light_all hq103
  rw [h.len] at hn200
  refine sim_loop (ι := Nat) (T := []) (w0 := w) 0 [0, 2, 3] (fun k => [(4, LI k)]) (fun _ => []) (fun k w1 => k ≤ n ∧ ∃ v xs, BkO ρ109 [] w1 w107.heap.size g v xs ∧ Inv xs) (fun k => n - k) (by kernel_rfl) (by kernel_rfl) (hR109.cast (by kernel_rfl)) ⟨Nat.zero_le _, .slice none 0 0, [], hbk.castR (by kernel_rfl), Inv.nil⟩ ?_
  iterate 12 (try clear hbk)
  clear hR109 hm109
  rintro k d w2 hR2 ⟨hk, v, xs, hbk, hxs⟩
  by_cases hlt : k < n
  · obtain ⟨u, hu, hok, hx⟩ := h.get hlt
    have hl := light_o (hall u (List.mem_of_getElem? hu))
    refine sim_see u.cells k 0 (by kernel_rfl) hx h.rd (op_len os) (by omega) hlt (Nat.le_refl _) (by simp) hR2 (by kernel_rfl) (fun ga oa ρE eA hgT hgl hmE eE hRE => ?_)
    subst eA
    have hbk := hbk.moved hmE
    have hag := hRE.ag_ 1 (by kernel_rfl)
    refine sim_meet (T := []) (w0 := w) (ι := Value × List In) (regK Try.f8 27) (fun _ => tmplJ Try.f8.ntmps 0 [(0, .v (.slice (some ⟨ga, oa, none⟩) n cp)), (2, LB false), (3, .v (.pointer (some ⟨g, 0, none⟩))), (4, LI k)]) [] (fun x ρ' w' => BkO ρ' [] w' w107.heap.size g x.1 x.2 ∧ Inv x.2) ?_ (fun hmeet => ?_)
    rotate_left
    · have hids : ∀ i ∈ u.l.xs, Is64 i := fun i hi => hok.l.2.2.2 i hi
      refine sim_run 8 [] hRE (by kernel_rfl) trivial (fun ρ500 w500 hm500 hR500 => ?_)
      have hbk := hbk.moved hm500
      have hag := hag.moved hm500
      refine sim_know 21 (decide ((↑k : Int) < (↑n : Int))) true (by kernel_rfl) (decide_eq_true (by omega)) ?_
      refine sim_run 8 [] hR500 (by kernel_rfl) trivial (fun ρ501 w501 hm501 hR501 => ?_)
      have hbk := hbk.moved hm501
      have hag := hag.moved hm501
      refine sim_place (.v (.slice (some ⟨ga, oa, none⟩) n cp)) n 20 k 0 0 (by kernel_rfl) (by omega) (by omega) rfl (by simp only [Nm.at_, hag.at_ 0 (by omega), eE, Nat.add_zero, Int.toNat_natCast]) ?_
      refine sim_run 16 [] hR501 (by kernel_rfl) trivial (fun ρ503 w503 hm503 hR503 => ?_)
      have hbk := hbk.moved hm503
      have hag := hag.moved hm503
      refine sim_fork 30 (u.kind == 1) (by kernel_rfl) (fun hq504 => ?_) (fun hq504 => ?_)
      have hq504 := of_decide_eq_true hq504
      refine sim_run 9 [] hR503 (by kernel_rfl) trivial (fun ρ505 w505 hm505 hR505 => ?_)
      have hbk := hbk.moved hm505
      have hag := hag.moved hm505
      refine sim_fork 36 (decide (u.t.qty < 0)) (by kernel_rfl) (fun hq506 => ?_) (fun hq506 => ?_)
      have hq506 := of_decide_eq_true hq506
      refine sim_run 9 [] hR505 (by kernel_rfl) trivial (fun ρ507 w507 hm507 hR507 => ?_)
      have hbk := hbk.moved hm507
      have hag := hag.moved hm507
      refine sim_call 20 [] (by kernel_rfl) ?_
      refine Calls.mono (alive14_any _) ?_
      rintro e508 w508 ⟨rfl, hb508⟩
      have hR508 := hR507.below hb508
      have hbk := hbk.below hb508
      refine Back.of (LB true) hR508 rfl ?_
      refine sim_run 2 [] hR508 (by kernel_rfl) trivial (fun ρ509 w509 hm509 hR509 => ?_)
      have hag := hag.moved hm509
      have hbk := hbk.moved hm509
      refine sim_ret (LB true) hR509 (by kernel_rfl) (by kernel_rfl) ?_
      exact ⟨rfl, hR509.toBelow⟩
      have hq506 := of_decide_eq_false hq506
      refine sim_run 6 [] hR505 (by kernel_rfl) trivial (fun ρ510 w510 hm510 hR510 => ?_)
      have hbk := hbk.moved hm510
      have hag := hag.moved hm510
      refine sim_fork 41 (decide (u.t.amount < 0)) (by kernel_rfl) (fun hq511 => ?_) (fun hq511 => ?_)
      have hq511 := of_decide_eq_true hq511
      refine sim_run 3 [] hR510 (by kernel_rfl) trivial (fun ρ512 w512 hm512 hR512 => ?_)
      have hbk := hbk.moved hm512
      have hag := hag.moved hm512
      refine sim_call 20 [] (by kernel_rfl) ?_
      refine Calls.mono (alive14_any _) ?_
      rintro e513 w513 ⟨rfl, hb513⟩
      have hR513 := hR512.below hb513
      have hbk := hbk.below hb513
      refine Back.of (LB true) hR513 rfl ?_
      refine sim_run 2 [] hR513 (by kernel_rfl) trivial (fun ρ514 w514 hm514 hR514 => ?_)
      have hag := hag.moved hm514
      have hbk := hbk.moved hm514
      refine sim_ret (LB true) hR514 (by kernel_rfl) (by kernel_rfl) ?_
      exact ⟨rfl, hR514.toBelow⟩
      have hq511 := of_decide_eq_false hq511
      refine sim_run 12 [] hR510 (by kernel_rfl) trivial (fun ρ515 w515 hm515 hR515 => ?_)
      have hbk := hbk.moved hm515
      have hag := hag.moved hm515
      refine sim_call 21 [.v (Value.pointer (some (Addr.mk g 0 none))), .agg [LS u.t.party, LS u.t.account, LS u.t.money, LS u.t.other, LB u.t.deliver, LS u.t.asset, LS u.t.ccy, LS u.t.ref, LI u.t.qty, LI u.t.amount, LI u.t.day, LI u.t.trade], LI u.a, LB u.on, LB u.off] (by kernel_rfl) ?_
      refine Calls.mono (add_bk _ _ _ _ _ _ _ _ _ _ _ _ _ _ _ _ _ _ _ _ hbk.bk (hok.t.short hM)) ?_
      rintro e516 w516 ⟨v516, rfl, hbv516, hk516, hv516⟩
      obtain ⟨hbk, hR516⟩ := hbk.after hR515 hBw hbv516 hk516 hv516 [0] (by kernel_rfl) (by intro q hq; simp only [List.mem_singleton] at hq; subst hq; rw [hag.at_ 0 (by omega), eE]; exact hgl)
      refine Back.of (.tup [LI ((addM xs (Tm.mk u.t.party u.t.account u.t.money u.t.other u.t.deliver u.t.asset u.t.ccy u.t.ref u.t.qty u.t.amount u.t.day u.t.trade) u.a u.on u.off).snd.fst), LI ((addM xs (Tm.mk u.t.party u.t.account u.t.money u.t.other u.t.deliver u.t.asset u.t.ccy u.t.ref u.t.qty u.t.amount u.t.day u.t.trade) u.a u.on u.off).snd.snd)]) hR516 rfl ?_
      refine sim_run 4 [] hR516 (by kernel_rfl) trivial (fun ρ517 w517 hm517 hR517 => ?_)
      have hag := hag.moved hm517
      have hbk := hbk.moved hm517
      rotate_left
      have hq504 := of_decide_eq_false hq504
      refine sim_run 6 [] hR503 (by kernel_rfl) trivial (fun ρ518 w518 hm518 hR518 => ?_)
      have hbk := hbk.moved hm518
      have hag := hag.moved hm518
      refine sim_fork 53 (u.kind == 2) (by kernel_rfl) (fun hq519 => ?_) (fun hq519 => ?_)
      have hq519 := of_decide_eq_true hq519
      refine sim_run 9 [] hR518 (by kernel_rfl) trivial (fun ρ520 w520 hm520 hR520 => ?_)
      have hbk := hbk.moved hm520
      have hag := hag.moved hm520
      refine sim_call 28 [.v (Value.pointer (some (Addr.mk g 0 none))), LS u.party, LB u.on, .v (Value.slice u.l.A u.l.n u.l.c)] (by kernel_rfl) ?_
      refine Calls.mono (hold_bk _ _ _ _ _ _ _ _ _ _ (u.l.xs) _ hbk.bk (by assumption) (hok.at_ hR520.toBelow).l.1 (by omega) (hbk.bk.farOld hok.l.1 hBw) (by omega)) ?_
      rintro e521 w521 ⟨v521, rfl, hbv521, hk521, hv521⟩
      obtain ⟨hbk, hR521⟩ := hbk.after hR520 hBw hbv521 hk521 hv521 [0] (by kernel_rfl) (by intro q hq; simp only [List.mem_singleton] at hq; subst hq; rw [hag.at_ 0 (by omega), eE]; exact hgl)
      refine Back.of (LI (holdE xs u.party u.l.xs)) hR521 rfl ?_
      refine sim_run 4 [] hR521 (by kernel_rfl) trivial (fun ρ522 w522 hm522 hR522 => ?_)
      have hag := hag.moved hm522
      have hbk := hbk.moved hm522
      rotate_left
      have hq519 := of_decide_eq_false hq519
      refine sim_run 6 [] hR518 (by kernel_rfl) trivial (fun ρ523 w523 hm523 hR523 => ?_)
      have hbk := hbk.moved hm523
      have hag := hag.moved hm523
      refine sim_fork 63 (u.kind == 3) (by kernel_rfl) (fun hq524 => ?_) (fun hq524 => ?_)
      have hq524 := of_decide_eq_true hq524
      refine sim_run 7 [] hR523 (by kernel_rfl) trivial (fun ρ525 w525 hm525 hR525 => ?_)
      have hbk := hbk.moved hm525
      have hag := hag.moved hm525
      refine sim_call 25 [.v (Value.pointer (some (Addr.mk g 0 none))), LS u.party, LI u.a] (by kernel_rfl) ?_
      refine Calls.mono (cancel_bk _ _ _ _ _ _ _ hbk.bk hok.a (hxs.okL.at_ _)) ?_
      rintro e526 w526 ⟨v526, rfl, hbv526, hk526, hv526⟩
      obtain ⟨hbk, hR526⟩ := hbk.after hR525 hBw hbv526 hk526 hv526 [0] (by kernel_rfl) (by intro q hq; simp only [List.mem_singleton] at hq; subst hq; rw [hag.at_ 0 (by omega), eE]; exact hgl)
      refine Back.of (LI ((cancelM xs u.party u.a).snd)) hR526 rfl ?_
      refine sim_run 4 [] hR526 (by kernel_rfl) trivial (fun ρ527 w527 hm527 hR527 => ?_)
      have hag := hag.moved hm527
      have hbk := hbk.moved hm527
      rotate_left
      have hq524 := of_decide_eq_false hq524
      refine sim_run 6 [] hR523 (by kernel_rfl) trivial (fun ρ528 w528 hm528 hR528 => ?_)
      have hbk := hbk.moved hm528
      have hag := hag.moved hm528
      refine sim_fork 71 (u.kind == 4) (by kernel_rfl) (fun hq529 => ?_) (fun hq529 => ?_)
      have hq529 := of_decide_eq_true hq529
      refine sim_run 7 [] hR528 (by kernel_rfl) trivial (fun ρ530 w530 hm530 hR530 => ?_)
      have hbk := hbk.moved hm530
      have hag := hag.moved hm530
      refine sim_call 26 [.v (Value.pointer (some (Addr.mk g 0 none))), LS u.party, LI u.a] (by kernel_rfl) ?_
      refine Calls.mono (keep_bk _ _ _ _ _ _ _ hbk.bk hok.a) ?_
      rintro e531 w531 ⟨v531, rfl, hbv531, hk531, hv531⟩
      obtain ⟨hbk, hR531⟩ := hbk.after hR530 hBw hbv531 hk531 hv531 [0] (by kernel_rfl) (by intro q hq; simp only [List.mem_singleton] at hq; subst hq; rw [hag.at_ 0 (by omega), eE]; exact hgl)
      refine Back.of (LI (mayM xs u.party u.a)) hR531 rfl ?_
      refine sim_run 4 [] hR531 (by kernel_rfl) trivial (fun ρ532 w532 hm532 hR532 => ?_)
      have hag := hag.moved hm532
      have hbk := hbk.moved hm532
      rotate_left
      have hq529 := of_decide_eq_false hq529
      refine sim_run 6 [] hR528 (by kernel_rfl) trivial (fun ρ533 w533 hm533 hR533 => ?_)
      have hbk := hbk.moved hm533
      have hag := hag.moved hm533
      refine sim_fork 79 (u.kind == 7) (by kernel_rfl) (fun hq534 => ?_) (fun hq534 => ?_)
      have hq534 := of_decide_eq_true hq534
      refine sim_run 9 [] hR533 (by kernel_rfl) trivial (fun ρ535 w535 hm535 hR535 => ?_)
      have hbk := hbk.moved hm535
      have hag := hag.moved hm535
      refine sim_call 24 [.v (Value.pointer (some (Addr.mk g 0 none))), LI u.a, LI u.b, LI u.c] (by kernel_rfl) ?_
      refine Calls.mono (pair_bk _ _ _ _ _ _ _ _ hbk.bk hok.a hok.b) ?_
      rintro e536 w536 ⟨v536, rfl, hbv536, hk536, hv536⟩
      obtain ⟨hbk, hR536⟩ := hbk.after hR535 hBw hbv536 hk536 hv536 [0] (by kernel_rfl) (by intro q hq; simp only [List.mem_singleton] at hq; subst hq; rw [hag.at_ 0 (by omega), eE]; exact hgl)
      refine Back.of (LI ((pairM xs u.a u.b u.c).snd)) hR536 rfl ?_
      refine sim_run 4 [] hR536 (by kernel_rfl) trivial (fun ρ537 w537 hm537 hR537 => ?_)
      have hag := hag.moved hm537
      have hbk := hbk.moved hm537
      rotate_left
      have hq534 := of_decide_eq_false hq534
      refine sim_run 6 [] hR533 (by kernel_rfl) trivial (fun ρ538 w538 hm538 hR538 => ?_)
      have hbk := hbk.moved hm538
      have hag := hag.moved hm538
      refine sim_fork 89 (u.kind == 8) (by kernel_rfl) (fun hq539 => ?_) (fun hq539 => ?_)
      have hq539 := of_decide_eq_true hq539
      refine sim_run 9 [] hR538 (by kernel_rfl) trivial (fun ρ540 w540 hm540 hR540 => ?_)
      have hbk := hbk.moved hm540
      have hag := hag.moved hm540
      refine sim_call 32 [.v (Value.pointer (some (Addr.mk g 0 none))), LI u.a, LI u.b, LI u.c] (by kernel_rfl) ?_
      refine Calls.mono (settle_bk _ _ _ _ _ _ _ _ hbk.bk hok.a (hxs.okL.at_ _) (hxs.qty64 _)) ?_
      rintro e541 w541 ⟨v541, rfl, hbv541, hk541, hv541⟩
      obtain ⟨hbk, hR541⟩ := hbk.after hR540 hBw hbv541 hk541 hv541 [0] (by kernel_rfl) (by intro q hq; simp only [List.mem_singleton] at hq; subst hq; rw [hag.at_ 0 (by omega), eE]; exact hgl)
      refine Back.of (LI ((settleM xs u.a u.b u.c).snd)) hR541 rfl ?_
      refine sim_run 4 [] hR541 (by kernel_rfl) trivial (fun ρ542 w542 hm542 hR542 => ?_)
      have hag := hag.moved hm542
      have hbk := hbk.moved hm542
      rotate_left
      have hq539 := of_decide_eq_false hq539
      refine sim_run 6 [] hR538 (by kernel_rfl) trivial (fun ρ543 w543 hm543 hR543 => ?_)
      have hbk := hbk.moved hm543
      have hag := hag.moved hm543
      refine sim_fork 99 (u.kind == 9) (by kernel_rfl) (fun hq544 => ?_) (fun hq544 => ?_)
      have hq544 := of_decide_eq_true hq544
      refine sim_run 5 [] hR543 (by kernel_rfl) trivial (fun ρ545 w545 hm545 hR545 => ?_)
      have hbk := hbk.moved hm545
      have hag := hag.moved hm545
      refine sim_call 33 [.v (Value.pointer (some (Addr.mk g 0 none))), .v (Value.slice u.l.A u.l.n u.l.c)] (by kernel_rfl) ?_
      refine Calls.mono (expire_bk _ _ _ _ _ _ _ _ (u.l.xs) _ hbk.bk hxs.okL (by assumption) (hok.at_ hR545.toBelow).l.1 (by omega) (hbk.bk.farOld hok.l.1 hBw) (by omega)) ?_
      rintro e546 w546 ⟨z546, v546, rfl, hbv546, hk546, hv546⟩
      obtain ⟨hbk, hR546⟩ := hbk.after hR545 hBw hbv546 hk546 hv546 [0] (by kernel_rfl) (by intro q hq; simp only [List.mem_singleton] at hq; subst hq; rw [hag.at_ 0 (by omega), eE]; exact hgl)
      refine Back.of (LI z546) hR546 rfl ?_
      refine sim_run 4 [] hR546 (by kernel_rfl) trivial (fun ρ547 w547 hm547 hR547 => ?_)
      have hag := hag.moved hm547
      have hbk := hbk.moved hm547
      rotate_left
      have hq544 := of_decide_eq_false hq544
      refine sim_run 5 [] hR543 (by kernel_rfl) trivial (fun ρ548 w548 hm548 hR548 => ?_)
      have hbk := hbk.moved hm548
      have hag := hag.moved hm548
      rotate_left
      
      · exact hmeet _ (_, _) _ _ (by kernel_rfl) (by kernel_rfl) (by kernel_rfl) (Rel.none_ ‹_›) ⟨hbk.cut (N := 0) ⟨fun j hj => absurd hj (Nat.not_lt_zero j), Nat.zero_le _⟩ rfl (by kernel_rfl), hxs.add _ _ _ _ (show 0 ≤ u.t.qty by omega) (show u.t.qty ≤ 36028797018963968 by omega) (show 0 ≤ u.t.amount by omega) (show u.t.amount ≤ 36028797018963968 by omega)⟩
      · exact hmeet _ (_, _) _ _ (by kernel_rfl) (by kernel_rfl) (by kernel_rfl) (Rel.none_ ‹_›) ⟨hbk.cut (N := 0) ⟨fun j hj => absurd hj (Nat.not_lt_zero j), Nat.zero_le _⟩ rfl (by kernel_rfl), hxs.hold _ _ _⟩
      · exact hmeet _ (_, _) _ _ (by kernel_rfl) (by kernel_rfl) (by kernel_rfl) (Rel.none_ ‹_›) ⟨hbk.cut (N := 0) ⟨fun j hj => absurd hj (Nat.not_lt_zero j), Nat.zero_le _⟩ rfl (by kernel_rfl), hxs.cancel _ _⟩
      · exact hmeet _ (_, _) _ _ (by kernel_rfl) (by kernel_rfl) (by kernel_rfl) (Rel.none_ ‹_›) ⟨hbk.cut (N := 0) ⟨fun j hj => absurd hj (Nat.not_lt_zero j), Nat.zero_le _⟩ rfl (by kernel_rfl), hxs.keep _ _⟩
      · exact hmeet _ (_, _) _ _ (by kernel_rfl) (by kernel_rfl) (by kernel_rfl) (Rel.none_ ‹_›) ⟨hbk.cut (N := 0) ⟨fun j hj => absurd hj (Nat.not_lt_zero j), Nat.zero_le _⟩ rfl (by kernel_rfl), hxs.pair _ _ _⟩
      · exact hmeet _ (_, _) _ _ (by kernel_rfl) (by kernel_rfl) (by kernel_rfl) (Rel.none_ ‹_›) ⟨hbk.cut (N := 0) ⟨fun j hj => absurd hj (Nat.not_lt_zero j), Nat.zero_le _⟩ rfl (by kernel_rfl), hxs.settle _ _ _⟩
      · exact hmeet _ (_, _) _ _ (by kernel_rfl) (by kernel_rfl) (by kernel_rfl) (Rel.none_ ‹_›) ⟨hbk.cut (N := 0) ⟨fun j hj => absurd hj (Nat.not_lt_zero j), Nat.zero_le _⟩ rfl (by kernel_rfl), Inv.expAll _ hxs⟩
      · exact hmeet _ (_, _) _ _ (by kernel_rfl) (by kernel_rfl) (by kernel_rfl) (Rel.none_ ‹_›) ⟨hbk.cut (N := 0) ⟨fun j hj => absurd hj (Nat.not_lt_zero j), Nat.zero_le _⟩ rfl (by kernel_rfl), hxs⟩
    · iterate 12 (try clear hbk)
      iterate 6 (try clear hag)
      clear hmE hRE hxs
      rintro ⟨v', ys⟩ ρ3 w3 d3 hR3 ⟨hbk, hys⟩
      have hbk : BkO ρ3 [] w3 w107.heap.size g v' ys := hbk
      have hys : Inv ys := hys
      have hfew := hys.few
      refine mates_look w w3 ρ3 d3 _ v' g w107.heap.size k ys hR3 hbk hys (by omega) (fun c' ρ' w' hk' hm' hl' hR' hbk' => ?_)
      exact sim_rs [] (sim_again (k + 1) hk' (by show n - (k + 1) < n - k; omega) ((congrArg (mergeT · c'.tmps) (by kernel_rfl)).trans hm') ((congrArg List.length (by kernel_rfl)).trans hl') (by kernel_rfl) (fun j hj => by simp at hj) hR' (by kernel_rfl) (by kernel_rfl) ⟨hlt, _, _, hbk'.cut (N := 0) (rs := []) ⟨fun j hj => absurd hj (Nat.not_lt_zero j), Nat.zero_le _⟩ rfl rfl, hys⟩)
  · refine sim_run 8 [] hR2 (by kernel_rfl) trivial (fun ρ700 w700 hm700 hR700 => ?_)
    have hbk := hbk.moved hm700
    refine sim_know 21 (decide ((↑k : Int) < (↑n : Int))) false (by kernel_rfl) (decide_eq_false (by omega)) ?_
    refine sim_run 1 [] hR700 (by kernel_rfl) trivial (fun ρ701 w701 hm701 hR701 => ?_)
    have hbk := hbk.moved hm701
    refine sim_leave (by kernel_rfl) ?_
    refine sim_run 2 [] hR701 (by kernel_rfl) trivial (fun ρ702 w702 hm702 hR702 => ?_)
    have hbk := hbk.moved hm702
    refine sim_call 20 [] (by kernel_rfl) ?_
    refine Calls.mono (alive14_any _) ?_
    rintro e703 w703 ⟨rfl, hb703⟩
    have hR703 := hR702.below hb703
    have hbk := hbk.below hb703
    refine Back.of (LB true) hR703 rfl ?_
    refine sim_run 2 [] hR703 (by kernel_rfl) trivial (fun ρ704 w704 hm704 hR704 => ?_)
    have hbk := hbk.moved hm704
    refine sim_ret (LB true) hR704 (by kernel_rfl) (by kernel_rfl) ?_
    exact ⟨rfl, hR704.toBelow⟩
    
end Go.Proofs.Ytodjhkmbgennaaa
