/-
  Whatever is applied and issued: of each asset there is what was issued, and each part lies from nought to its end: for every list of steps.
-/
import Derived.Test.YtgbgedaedcofcaaPostTotals2
namespace Go.Proofs.Ytgbgedaedcofcaa
open Go Go.RowKit
theorem lvl_tot {w : World} {B gl : Nat} {s : LSt} (h : Lvl s) (hl : LdV w B gl s) (c : ByteArray) : clampV (sumI (allOf s.l (sortKs (pickKs [c] s.l)))) = (look c s.li).getD 0 := by
  have h1 := tot_nn hl.pos.mp.fine hl.pos.ok hl.pos.nz c
  have h2 := h.le c
  have h3 := h.eq c
  unfold totS at h1 h2 h3
  rw [clamp_in (by omega), h3]
  rfl
theorem lvl_hi {w : World} {B gl : Nat} {s : LSt} (h : Lvl s) (hl : LdV w B gl s) (c : ByteArray) : -4611686018427387904 ≤ (look c s.li).getD 0 ∧ (look c s.li).getD 0 ≤ 4611686018427387904 := by
  have h1 := tot_nn hl.pos.mp.fine hl.pos.ok hl.pos.nz c
  have h2 := h.le c
  have h3 := h.eq c
  unfold issd at h3
  omega
attribute [local irreducible] run goO leaveK someK nextK nextT nextOT nextOD loopBody loopRest loopK fillJ tmplOf tmplJ mergeT At AtO drawOk ordOf gateOf callC callO topOp topO idxOf appOf storeOf clearOf sliceOf calleeOf calleeO topQ idxQ newRowOf resL stepOp seek
set_option maxRecDepth 100000 in
set_option maxHeartbeats 4000000 in
theorem totals_outer {w0 w : World} {ρ : Nm} {A : Option Addr} {n cp M B gl g : Nat} (hM : M ≤ 281474976710656) {os : List OpL} (h : OpLs w0 A n M os) (hn100 : os.length ≤ 100) (hn15 : ∀ o ∈ os, o.n ≤ 1500) (hR : Rel [] w0 ρ [⟨ptrG g, false⟩] w) (hld : LdO ρ [⟨ptrG g, false⟩] w B gl (newS g)) (hBw : w0.heap.size ≤ B) (d : Nat → Value) :
    At Try.prog (bodyPost Try.prog Try.f10 (fun e w' => e = .returned (.bool true) ∧ Below w0.heap.size w0 w')) ⟨regK Try.f10 6, fillJ (tmplJ Try.f10.ntmps 0 [(0, .v (.slice A n cp)), (3, .ptr 0 0)]) d 0, [⟨ptrG g, false⟩]⟩ ρ w := by
  have hmax := h.max
  have hlen := h.len
  have e0 := hld.at_
  have hag := Rel.ag_ hR 1 (by kernel_rfl)
  refine sim_run 8 [] (hR.cast (by kernel_rfl)) (by kernel_rfl) trivial (fun ρ300 w300 hm300 hR300 => ?_)
  have hld := hld.moved (hm300.castL (by kernel_rfl))
  have hag := hag.moved (hm300.castL (by kernel_rfl))
  
  refine sim_loop (ι := Nat × Nat) (T := []) (w0 := w0) (0, 0) [0, 3] (fun x => [(4, LI ((x.2 : Nat) : Int)), (5, LI ((x.1 : Nat) : Int))]) (fun _ => [⟨ptrG g, false⟩]) (fun x w1 => x.1 ≤ n ∧ x.2 ≤ 7 ∧ ∃ s, LdO ρ300 [⟨ptrG g, false⟩] w1 B gl s ∧ s.g = g ∧ Lvl s ∧ s.l.length ≤ x.1 * 1501) (fun x => n - x.1) (by kernel_rfl) (by kernel_rfl) ((by assumption : Rel _ _ _ _ _).cast (by kernel_rfl)) ⟨Nat.zero_le _, Nat.zero_le _, newS g, hld.castR (by kernel_rfl), rfl, lvl_new g, Nat.zero_le _⟩ ?_
  clear hld hag hR300 hm300 hR e0
  rintro ⟨i, less⟩ d w2 hR2 ⟨hi, hless, s, hld, hsg, hlv, hll⟩
  dsimp only at hi hless hll
  have e0 := hld.at_
  have hag1 := hR2.ag_ 1 (by kernel_rfl)
  have hfin0 := hld.ld.pos.mp.fine
  have hok0 := hld.ld.pos.ok
  by_cases hlt : i < n
  · obtain ⟨o, ho, hok, hx⟩ := h.get hlt
    have hon := hn15 o (List.mem_of_getElem? ho)
    have hac : o.acc.size ≤ 281474976710656 := Nat.le_trans hok.acc hM
    have has : o.asset.size ≤ 281474976710656 := Nat.le_trans hok.asset hM
    have hsh : Short o.ps := fun p hp => ⟨Nat.le_trans (hok.ps.sz p hp).1 hM, Nat.le_trans (hok.ps.sz p hp).2 hM⟩
    have hok1 := hok.amt
    have hok2 := hok.kind
    unfold Is64 at hok1 hok2
    refine sim_see o.cells i 1 (by kernel_rfl) hx h.rd (opL_len os) (by omega) hlt (Nat.le_refl _) (by simp) hR2 (by kernel_rfl) (fun ga oa ρE eA hgT hgl hmE eE hRE => ?_)
    subst eA
    have hld := hld.moved hmE
    have hag1 := hag1.moved hmE
    have hag := hRE.ag_ 2 (by kernel_rfl)
    have e0 := hld.at_
    by_cases h3 : o.kind = 3
    · by_cases hneg : o.amt < 0
      · by_cases h7 : 7 < less + 1
        · refine sim_run 8 [] (hRE.cast (by kernel_rfl)) (by kernel_rfl) trivial (fun ρ400 w400 hm400 hR400 => ?_)
          have hld := hld.moved (hm400.castL (by kernel_rfl))
          have hag1 := hag1.moved (hm400.castL (by kernel_rfl))
          have hag := hag.moved (hm400.castL (by kernel_rfl))
          refine sim_know 20 (decide ((↑(i, less).fst : Int) < (↑n : Int))) true (by kernel_rfl) (decide_eq_true (by omega)) ?_
          refine sim_run 8 [] (hR400.cast (by kernel_rfl)) (by kernel_rfl) trivial (fun ρ401 w401 hm401 hR401 => ?_)
          have hld := hld.moved (hm401.castL (by kernel_rfl))
          have hag1 := hag1.moved (hm401.castL (by kernel_rfl))
          have hag := hag.moved (hm401.castL (by kernel_rfl))
          refine sim_place (.v (.slice (some ⟨ga, oa, none⟩) n cp)) n 5 i 1 0 (by kernel_rfl) (by omega) (by omega) rfl (by simp only [Nm.at_, hag.at_ 1 (by omega), eE, Nat.add_zero, Int.toNat_natCast]) ?_
          refine sim_run 11 [] (hR401.cast (by kernel_rfl)) (by kernel_rfl) trivial (fun ρ403 w403 hm403 hR403 => ?_)
          have hld := hld.moved (hm403.castL (by kernel_rfl))
          have hag1 := hag1.moved (hm403.castL (by kernel_rfl))
          have hag := hag.moved (hm403.castL (by kernel_rfl))
          refine sim_know 30 (o.kind == 3) true (by kernel_rfl) (decide_eq_true (by omega)) ?_
          refine sim_run 5 [] (hR403.cast (by kernel_rfl)) (by kernel_rfl) trivial (fun ρ404 w404 hm404 hR404 => ?_)
          have hld := hld.moved (hm404.castL (by kernel_rfl))
          have hag1 := hag1.moved (hm404.castL (by kernel_rfl))
          have hag := hag.moved (hm404.castL (by kernel_rfl))
          refine sim_know 34 (decide (o.amt < 0)) true (by kernel_rfl) (decide_eq_true (by omega)) ?_
          refine sim_run 12 [⟨12, 1, LI (IntKind.i64.wrap ((↑(i, less).snd : Int) + 1)), LI ((↑(i, less).snd : Int) + 1)⟩] (hR404.cast (by kernel_rfl)) (by kernel_rfl) ⟨eqi (IntWalk.i64_in _ (by omega)), trivial⟩ (fun ρ405 w405 hm405 hR405 => ?_)
          have hld := hld.moved (hm405.castL (by kernel_rfl))
          have hag1 := hag1.moved (hm405.castL (by kernel_rfl))
          have hag := hag.moved (hm405.castL (by kernel_rfl))
          refine sim_know 38 (decide ((↑(i, less).snd : Int) + 1 > 7)) true (by kernel_rfl) (decide_eq_true (by omega)) ?_
          refine sim_run 3 [] (hR405.cast (by kernel_rfl)) (by kernel_rfl) trivial (fun ρ406 w406 hm406 hR406 => ?_)
          have hld := hld.moved (hm406.castL (by kernel_rfl))
          have hag1 := hag1.moved (hm406.castL (by kernel_rfl))
          have hag := hag.moved (hm406.castL (by kernel_rfl))
          refine sim_call 23 [] (by kernel_rfl) ?_
          refine Calls.mono (alive11_any _) ?_
          rintro e407 w407 ⟨rfl, hb407⟩
          have hR407 := hR406.below hb407
          have hld := hld.below hb407
          refine Back.of (LB true) hR407 rfl ?_
          refine sim_run 2 [] (hR407.cast (by kernel_rfl)) (by kernel_rfl) trivial (fun ρ408 w408 hm408 hR408 => ?_)
          have hag1 := hag1.moved (hm408.castL (by kernel_rfl))
          have hag := hag.moved (hm408.castL (by kernel_rfl))
          have hld := hld.moved (hm408.castL (by kernel_rfl))
          refine sim_ret (LB true) hR408 (by kernel_rfl) (by kernel_rfl) ?_
          exact ⟨rfl, hR408.toBelow⟩
          
        · refine sim_run 8 [] (hRE.cast (by kernel_rfl)) (by kernel_rfl) trivial (fun ρ500 w500 hm500 hR500 => ?_)
          have hld := hld.moved (hm500.castL (by kernel_rfl))
          have hag1 := hag1.moved (hm500.castL (by kernel_rfl))
          have hag := hag.moved (hm500.castL (by kernel_rfl))
          refine sim_know 20 (decide ((↑(i, less).fst : Int) < (↑n : Int))) true (by kernel_rfl) (decide_eq_true (by omega)) ?_
          refine sim_run 8 [] (hR500.cast (by kernel_rfl)) (by kernel_rfl) trivial (fun ρ501 w501 hm501 hR501 => ?_)
          have hld := hld.moved (hm501.castL (by kernel_rfl))
          have hag1 := hag1.moved (hm501.castL (by kernel_rfl))
          have hag := hag.moved (hm501.castL (by kernel_rfl))
          refine sim_place (.v (.slice (some ⟨ga, oa, none⟩) n cp)) n 5 i 1 0 (by kernel_rfl) (by omega) (by omega) rfl (by simp only [Nm.at_, hag.at_ 1 (by omega), eE, Nat.add_zero, Int.toNat_natCast]) ?_
          refine sim_run 11 [] (hR501.cast (by kernel_rfl)) (by kernel_rfl) trivial (fun ρ503 w503 hm503 hR503 => ?_)
          have hld := hld.moved (hm503.castL (by kernel_rfl))
          have hag1 := hag1.moved (hm503.castL (by kernel_rfl))
          have hag := hag.moved (hm503.castL (by kernel_rfl))
          refine sim_know 30 (o.kind == 3) true (by kernel_rfl) (decide_eq_true (by omega)) ?_
          refine sim_run 5 [] (hR503.cast (by kernel_rfl)) (by kernel_rfl) trivial (fun ρ504 w504 hm504 hR504 => ?_)
          have hld := hld.moved (hm504.castL (by kernel_rfl))
          have hag1 := hag1.moved (hm504.castL (by kernel_rfl))
          have hag := hag.moved (hm504.castL (by kernel_rfl))
          refine sim_know 34 (decide (o.amt < 0)) true (by kernel_rfl) (decide_eq_true (by omega)) ?_
          refine sim_run 12 [⟨12, 1, LI (IntKind.i64.wrap ((↑(i, less).snd : Int) + 1)), LI ((↑(i, less).snd : Int) + 1)⟩] (hR504.cast (by kernel_rfl)) (by kernel_rfl) ⟨eqi (IntWalk.i64_in _ (by omega)), trivial⟩ (fun ρ505 w505 hm505 hR505 => ?_)
          have hld := hld.moved (hm505.castL (by kernel_rfl))
          have hag1 := hag1.moved (hm505.castL (by kernel_rfl))
          have hag := hag.moved (hm505.castL (by kernel_rfl))
          refine sim_know 38 (decide ((↑(i, less).snd : Int) + 1 > 7)) false (by kernel_rfl) (decide_eq_false (by omega)) ?_
          refine sim_run 14 [] (hR505.cast (by kernel_rfl)) (by kernel_rfl) trivial (fun ρ506 w506 hm506 hR506 => ?_)
          have hld := hld.moved (hm506.castL (by kernel_rfl))
          have hag1 := hag1.moved (hm506.castL (by kernel_rfl))
          have hag := hag.moved (hm506.castL (by kernel_rfl))
          refine sim_know 46 (o.kind == 3) true (by kernel_rfl) (decide_eq_true (by omega)) ?_
          refine sim_run 7 [] (hR506.cast (by kernel_rfl)) (by kernel_rfl) trivial (fun ρ507 w507 hm507 hR507 => ?_)
          have hld := hld.moved (hm507.castL (by kernel_rfl))
          have hag1 := hag1.moved (hm507.castL (by kernel_rfl))
          have hag := hag.moved (hm507.castL (by kernel_rfl))
          refine sim_call 25 [.ptr 0 0, .agg [LS o.acc, LS o.asset], LI o.amt] (by kernel_rfl) ?_
          have ez0_508 := (hag.at_ 0 (by omega)).trans e0
          simp only [denL, LV.den, Nm.at_, ez0_508, Nat.add_zero]
          refine Calls.mono (issue_any _ (gl) (s) _ _ _ _ hld.ld (by assumption) (by assumption) (by assumption) (lvl_hi hlv hld.ld o.asset)) ?_
          rintro e508 w508 ⟨rfl, s', hl508, his, hk508, hh508⟩
          obtain ⟨hld2, hR508⟩ := hld.afterL hR507 hBw hl508 his.g hk508 hh508 (by rw [hsg]; kernel_rfl) [1] (by kernel_rfl) (by intro q hq; simp only [List.mem_singleton] at hq; subst hq; rw [hag.at_ 1 (by omega), eE]; exact Nat.lt_of_lt_of_le hgl hBw)
          clear hld
          have hld := hld2
          clear hld2
          refine Back.of (LI (issC s o.acc o.asset o.amt)) hR508 rfl ?_
          refine sim_run 4 [] (hR508.cast (by kernel_rfl)) (by kernel_rfl) trivial (fun ρ509 w509 hm509 hR509 => ?_)
          have hag1 := hag1.moved (hm509.castL (by kernel_rfl))
          have hag := hag.moved (hm509.castL (by kernel_rfl))
          have hld := hld.moved (hm509.castL (by kernel_rfl))
          
          have hlv2 : Lvl (s') := lvl_issue hlv hfin0 hld.ld.pos.mp.fine his
          have hsg2 : (s').g = g := his.g.trans hsg
          have hll2 : (s').l.length ≤ (i + 1) * 1501 := by have := his.len; omega
          refine sim_to (regK Try.f10 22) (tmplJ Try.f10.ntmps 0 [(0, .v (.slice (some ⟨ga, oa, none⟩) n cp)), (3, .ptr 0 0), (4, LI ((less + 1 : Nat) : Int)), (5, LI i), (6, .ptr 2 0)]) [⟨ptrG g, false⟩, ⟨o.cells.map .v, false⟩, ⟨o.cells.map .v, true⟩] (by kernel_rfl) (by kernel_rfl) (by kernel_rfl) (fun d6 => ?_)
          refine totals_after ((by assumption : Rel _ _ _ _ _).cast (by kernel_rfl)) (hld.castR (by kernel_rfl)) hsg2 (by omega) (lvl_tot hlv2 hld.ld) (by omega) d6 (fun c' ρ' w' hk' hm' hl' hag' hR' htk hld' => ?_)
          have hag7 : Ag 1 ρ300 ρ' c'.rs := ⟨hag1.ag.trans hag'.ag (by omega), hag'.le⟩
          exact sim_again (i + 1, less + 1) hk' (by show n - (i + 1) < n - i; omega) ((congrArg (mergeT · c'.tmps) (by kernel_rfl)).trans hm') ((congrArg List.length (by kernel_rfl)).trans hl') (by kernel_rfl) hag7.ag hR' htk (by kernel_rfl) ⟨hlt, by show less + 1 ≤ 7; omega, s', hld'.cut hag7 (by omega) rfl htk, hsg2, hlv2, hll2⟩
      · refine sim_run 8 [] (hRE.cast (by kernel_rfl)) (by kernel_rfl) trivial (fun ρ600 w600 hm600 hR600 => ?_)
        have hld := hld.moved (hm600.castL (by kernel_rfl))
        have hag1 := hag1.moved (hm600.castL (by kernel_rfl))
        have hag := hag.moved (hm600.castL (by kernel_rfl))
        refine sim_know 20 (decide ((↑(i, less).fst : Int) < (↑n : Int))) true (by kernel_rfl) (decide_eq_true (by omega)) ?_
        refine sim_run 8 [] (hR600.cast (by kernel_rfl)) (by kernel_rfl) trivial (fun ρ601 w601 hm601 hR601 => ?_)
        have hld := hld.moved (hm601.castL (by kernel_rfl))
        have hag1 := hag1.moved (hm601.castL (by kernel_rfl))
        have hag := hag.moved (hm601.castL (by kernel_rfl))
        refine sim_place (.v (.slice (some ⟨ga, oa, none⟩) n cp)) n 5 i 1 0 (by kernel_rfl) (by omega) (by omega) rfl (by simp only [Nm.at_, hag.at_ 1 (by omega), eE, Nat.add_zero, Int.toNat_natCast]) ?_
        refine sim_run 11 [] (hR601.cast (by kernel_rfl)) (by kernel_rfl) trivial (fun ρ603 w603 hm603 hR603 => ?_)
        have hld := hld.moved (hm603.castL (by kernel_rfl))
        have hag1 := hag1.moved (hm603.castL (by kernel_rfl))
        have hag := hag.moved (hm603.castL (by kernel_rfl))
        refine sim_know 30 (o.kind == 3) true (by kernel_rfl) (decide_eq_true (by omega)) ?_
        refine sim_run 5 [] (hR603.cast (by kernel_rfl)) (by kernel_rfl) trivial (fun ρ604 w604 hm604 hR604 => ?_)
        have hld := hld.moved (hm604.castL (by kernel_rfl))
        have hag1 := hag1.moved (hm604.castL (by kernel_rfl))
        have hag := hag.moved (hm604.castL (by kernel_rfl))
        refine sim_know 34 (decide (o.amt < 0)) false (by kernel_rfl) (decide_eq_false (by omega)) ?_
        refine sim_run 8 [] (hR604.cast (by kernel_rfl)) (by kernel_rfl) trivial (fun ρ605 w605 hm605 hR605 => ?_)
        have hld := hld.moved (hm605.castL (by kernel_rfl))
        have hag1 := hag1.moved (hm605.castL (by kernel_rfl))
        have hag := hag.moved (hm605.castL (by kernel_rfl))
        refine sim_know 38 (decide ((↑(i, less).snd : Int) > 7)) false (by kernel_rfl) (decide_eq_false (by omega)) ?_
        refine sim_run 14 [] (hR605.cast (by kernel_rfl)) (by kernel_rfl) trivial (fun ρ606 w606 hm606 hR606 => ?_)
        have hld := hld.moved (hm606.castL (by kernel_rfl))
        have hag1 := hag1.moved (hm606.castL (by kernel_rfl))
        have hag := hag.moved (hm606.castL (by kernel_rfl))
        refine sim_know 46 (o.kind == 3) true (by kernel_rfl) (decide_eq_true (by omega)) ?_
        refine sim_run 7 [] (hR606.cast (by kernel_rfl)) (by kernel_rfl) trivial (fun ρ607 w607 hm607 hR607 => ?_)
        have hld := hld.moved (hm607.castL (by kernel_rfl))
        have hag1 := hag1.moved (hm607.castL (by kernel_rfl))
        have hag := hag.moved (hm607.castL (by kernel_rfl))
        refine sim_call 25 [.ptr 0 0, .agg [LS o.acc, LS o.asset], LI o.amt] (by kernel_rfl) ?_
        have ez0_608 := (hag.at_ 0 (by omega)).trans e0
        simp only [denL, LV.den, Nm.at_, ez0_608, Nat.add_zero]
        refine Calls.mono (issue_any _ (gl) (s) _ _ _ _ hld.ld (by assumption) (by assumption) (by assumption) (lvl_hi hlv hld.ld o.asset)) ?_
        rintro e608 w608 ⟨rfl, s', hl608, his, hk608, hh608⟩
        obtain ⟨hld2, hR608⟩ := hld.afterL hR607 hBw hl608 his.g hk608 hh608 (by rw [hsg]; kernel_rfl) [1] (by kernel_rfl) (by intro q hq; simp only [List.mem_singleton] at hq; subst hq; rw [hag.at_ 1 (by omega), eE]; exact Nat.lt_of_lt_of_le hgl hBw)
        clear hld
        have hld := hld2
        clear hld2
        refine Back.of (LI (issC s o.acc o.asset o.amt)) hR608 rfl ?_
        refine sim_run 4 [] (hR608.cast (by kernel_rfl)) (by kernel_rfl) trivial (fun ρ609 w609 hm609 hR609 => ?_)
        have hag1 := hag1.moved (hm609.castL (by kernel_rfl))
        have hag := hag.moved (hm609.castL (by kernel_rfl))
        have hld := hld.moved (hm609.castL (by kernel_rfl))
        
        have hlv2 : Lvl (s') := lvl_issue hlv hfin0 hld.ld.pos.mp.fine his
        have hsg2 : (s').g = g := his.g.trans hsg
        have hll2 : (s').l.length ≤ (i + 1) * 1501 := by have := his.len; omega
        refine sim_to (regK Try.f10 22) (tmplJ Try.f10.ntmps 0 [(0, .v (.slice (some ⟨ga, oa, none⟩) n cp)), (3, .ptr 0 0), (4, LI ((less : Nat) : Int)), (5, LI i), (6, .ptr 2 0)]) [⟨ptrG g, false⟩, ⟨o.cells.map .v, false⟩, ⟨o.cells.map .v, true⟩] (by kernel_rfl) (by kernel_rfl) (by kernel_rfl) (fun d6 => ?_)
        refine totals_after ((by assumption : Rel _ _ _ _ _).cast (by kernel_rfl)) (hld.castR (by kernel_rfl)) hsg2 (by omega) (lvl_tot hlv2 hld.ld) (by omega) d6 (fun c' ρ' w' hk' hm' hl' hag' hR' htk hld' => ?_)
        have hag7 : Ag 1 ρ300 ρ' c'.rs := ⟨hag1.ag.trans hag'.ag (by omega), hag'.le⟩
        exact sim_again (i + 1, less) hk' (by show n - (i + 1) < n - i; omega) ((congrArg (mergeT · c'.tmps) (by kernel_rfl)).trans hm') ((congrArg List.length (by kernel_rfl)).trans hl') (by kernel_rfl) hag7.ag hR' htk (by kernel_rfl) ⟨hlt, by show less ≤ 7; omega, s', hld'.cut hag7 (by omega) rfl htk, hsg2, hlv2, hll2⟩
    · by_cases h4 : o.kind = 4
      · refine sim_run 8 [] (hRE.cast (by kernel_rfl)) (by kernel_rfl) trivial (fun ρ700 w700 hm700 hR700 => ?_)
        have hld := hld.moved (hm700.castL (by kernel_rfl))
        have hag1 := hag1.moved (hm700.castL (by kernel_rfl))
        have hag := hag.moved (hm700.castL (by kernel_rfl))
        refine sim_know 20 (decide ((↑(i, less).fst : Int) < (↑n : Int))) true (by kernel_rfl) (decide_eq_true (by omega)) ?_
        refine sim_run 8 [] (hR700.cast (by kernel_rfl)) (by kernel_rfl) trivial (fun ρ701 w701 hm701 hR701 => ?_)
        have hld := hld.moved (hm701.castL (by kernel_rfl))
        have hag1 := hag1.moved (hm701.castL (by kernel_rfl))
        have hag := hag.moved (hm701.castL (by kernel_rfl))
        refine sim_place (.v (.slice (some ⟨ga, oa, none⟩) n cp)) n 5 i 1 0 (by kernel_rfl) (by omega) (by omega) rfl (by simp only [Nm.at_, hag.at_ 1 (by omega), eE, Nat.add_zero, Int.toNat_natCast]) ?_
        refine sim_run 11 [] (hR701.cast (by kernel_rfl)) (by kernel_rfl) trivial (fun ρ703 w703 hm703 hR703 => ?_)
        have hld := hld.moved (hm703.castL (by kernel_rfl))
        have hag1 := hag1.moved (hm703.castL (by kernel_rfl))
        have hag := hag.moved (hm703.castL (by kernel_rfl))
        refine sim_know 30 (o.kind == 3) false (by kernel_rfl) (decide_eq_false (by omega)) ?_
        refine sim_run 13 [] (hR703.cast (by kernel_rfl)) (by kernel_rfl) trivial (fun ρ704 w704 hm704 hR704 => ?_)
        have hld := hld.moved (hm704.castL (by kernel_rfl))
        have hag1 := hag1.moved (hm704.castL (by kernel_rfl))
        have hag := hag.moved (hm704.castL (by kernel_rfl))
        refine sim_know 38 (decide ((↑(i, less).snd : Int) > 7)) false (by kernel_rfl) (decide_eq_false (by omega)) ?_
        refine sim_run 14 [] (hR704.cast (by kernel_rfl)) (by kernel_rfl) trivial (fun ρ705 w705 hm705 hR705 => ?_)
        have hld := hld.moved (hm705.castL (by kernel_rfl))
        have hag1 := hag1.moved (hm705.castL (by kernel_rfl))
        have hag := hag.moved (hm705.castL (by kernel_rfl))
        refine sim_know 46 (o.kind == 3) false (by kernel_rfl) (decide_eq_false (by omega)) ?_
        refine sim_run 7 [] (hR705.cast (by kernel_rfl)) (by kernel_rfl) trivial (fun ρ706 w706 hm706 hR706 => ?_)
        have hld := hld.moved (hm706.castL (by kernel_rfl))
        have hag1 := hag1.moved (hm706.castL (by kernel_rfl))
        have hag := hag.moved (hm706.castL (by kernel_rfl))
        refine sim_know 54 (o.kind == 4) true (by kernel_rfl) (decide_eq_true (by omega)) ?_
        refine sim_run 10 [] (hR706.cast (by kernel_rfl)) (by kernel_rfl) trivial (fun ρ707 w707 hm707 hR707 => ?_)
        have hld := hld.moved (hm707.castL (by kernel_rfl))
        have hag1 := hag1.moved (hm707.castL (by kernel_rfl))
        have hag := hag.moved (hm707.castL (by kernel_rfl))
        refine sim_call 31 [.ptr 0 0, .agg [LS o.acc, LS o.asset], LB (o.kind == 4)] (by kernel_rfl) ?_
        have ez0_708 := (hag.at_ 0 (by omega)).trans e0
        simp only [denL, LV.den, Nm.at_, ez0_708, Nat.add_zero]
        refine Calls.mono (block_any _ (gl) (s) _ _ _ _ hld.ld (by assumption) (by assumption)) ?_
        rintro e708 w708 ⟨rfl, s', hl708, hbs, hk708, hh708⟩
        obtain ⟨hld2, hR708⟩ := hld.afterL hR707 hBw hl708 hbs.g hk708 hh708 (by rw [hsg]; kernel_rfl) [1] (by kernel_rfl) (by intro q hq; simp only [List.mem_singleton] at hq; subst hq; rw [hag.at_ 1 (by omega), eE]; exact Nat.lt_of_lt_of_le hgl hBw)
        clear hld
        have hld := hld2
        clear hld2
        refine Back.of (.tup []) hR708 rfl ?_
        refine sim_run 4 [] (hR708.cast (by kernel_rfl)) (by kernel_rfl) trivial (fun ρ709 w709 hm709 hR709 => ?_)
        have hag1 := hag1.moved (hm709.castL (by kernel_rfl))
        have hag := hag.moved (hm709.castL (by kernel_rfl))
        have hld := hld.moved (hm709.castL (by kernel_rfl))
        
        have hlv2 : Lvl (s') := lvl_block hlv hbs
        have hsg2 : (s').g = g := hbs.g.trans hsg
        have hll2 : (s').l.length ≤ (i + 1) * 1501 := by rw [hbs.l]; omega
        refine sim_to (regK Try.f10 22) (tmplJ Try.f10.ntmps 0 [(0, .v (.slice (some ⟨ga, oa, none⟩) n cp)), (3, .ptr 0 0), (4, LI ((less : Nat) : Int)), (5, LI i), (6, .ptr 2 0)]) [⟨ptrG g, false⟩, ⟨o.cells.map .v, false⟩, ⟨o.cells.map .v, true⟩] (by kernel_rfl) (by kernel_rfl) (by kernel_rfl) (fun d6 => ?_)
        refine totals_after ((by assumption : Rel _ _ _ _ _).cast (by kernel_rfl)) (hld.castR (by kernel_rfl)) hsg2 (by omega) (lvl_tot hlv2 hld.ld) (by omega) d6 (fun c' ρ' w' hk' hm' hl' hag' hR' htk hld' => ?_)
        have hag7 : Ag 1 ρ300 ρ' c'.rs := ⟨hag1.ag.trans hag'.ag (by omega), hag'.le⟩
        exact sim_again (i + 1, less) hk' (by show n - (i + 1) < n - i; omega) ((congrArg (mergeT · c'.tmps) (by kernel_rfl)).trans hm') ((congrArg List.length (by kernel_rfl)).trans hl') (by kernel_rfl) hag7.ag hR' htk (by kernel_rfl) ⟨hlt, by show less ≤ 7; omega, s', hld'.cut hag7 (by omega) rfl htk, hsg2, hlv2, hll2⟩
      · by_cases h5 : o.kind = 5
        · refine sim_run 8 [] (hRE.cast (by kernel_rfl)) (by kernel_rfl) trivial (fun ρ800 w800 hm800 hR800 => ?_)
          have hld := hld.moved (hm800.castL (by kernel_rfl))
          have hag1 := hag1.moved (hm800.castL (by kernel_rfl))
          have hag := hag.moved (hm800.castL (by kernel_rfl))
          refine sim_know 20 (decide ((↑(i, less).fst : Int) < (↑n : Int))) true (by kernel_rfl) (decide_eq_true (by omega)) ?_
          refine sim_run 8 [] (hR800.cast (by kernel_rfl)) (by kernel_rfl) trivial (fun ρ801 w801 hm801 hR801 => ?_)
          have hld := hld.moved (hm801.castL (by kernel_rfl))
          have hag1 := hag1.moved (hm801.castL (by kernel_rfl))
          have hag := hag.moved (hm801.castL (by kernel_rfl))
          refine sim_place (.v (.slice (some ⟨ga, oa, none⟩) n cp)) n 5 i 1 0 (by kernel_rfl) (by omega) (by omega) rfl (by simp only [Nm.at_, hag.at_ 1 (by omega), eE, Nat.add_zero, Int.toNat_natCast]) ?_
          refine sim_run 11 [] (hR801.cast (by kernel_rfl)) (by kernel_rfl) trivial (fun ρ803 w803 hm803 hR803 => ?_)
          have hld := hld.moved (hm803.castL (by kernel_rfl))
          have hag1 := hag1.moved (hm803.castL (by kernel_rfl))
          have hag := hag.moved (hm803.castL (by kernel_rfl))
          refine sim_know 30 (o.kind == 3) false (by kernel_rfl) (decide_eq_false (by omega)) ?_
          refine sim_run 13 [] (hR803.cast (by kernel_rfl)) (by kernel_rfl) trivial (fun ρ804 w804 hm804 hR804 => ?_)
          have hld := hld.moved (hm804.castL (by kernel_rfl))
          have hag1 := hag1.moved (hm804.castL (by kernel_rfl))
          have hag := hag.moved (hm804.castL (by kernel_rfl))
          refine sim_know 38 (decide ((↑(i, less).snd : Int) > 7)) false (by kernel_rfl) (decide_eq_false (by omega)) ?_
          refine sim_run 14 [] (hR804.cast (by kernel_rfl)) (by kernel_rfl) trivial (fun ρ805 w805 hm805 hR805 => ?_)
          have hld := hld.moved (hm805.castL (by kernel_rfl))
          have hag1 := hag1.moved (hm805.castL (by kernel_rfl))
          have hag := hag.moved (hm805.castL (by kernel_rfl))
          refine sim_know 46 (o.kind == 3) false (by kernel_rfl) (decide_eq_false (by omega)) ?_
          refine sim_run 7 [] (hR805.cast (by kernel_rfl)) (by kernel_rfl) trivial (fun ρ806 w806 hm806 hR806 => ?_)
          have hld := hld.moved (hm806.castL (by kernel_rfl))
          have hag1 := hag1.moved (hm806.castL (by kernel_rfl))
          have hag := hag.moved (hm806.castL (by kernel_rfl))
          refine sim_know 54 (o.kind == 4) false (by kernel_rfl) (decide_eq_false (by omega)) ?_
          refine sim_run 5 [] (hR806.cast (by kernel_rfl)) (by kernel_rfl) trivial (fun ρ807 w807 hm807 hR807 => ?_)
          have hld := hld.moved (hm807.castL (by kernel_rfl))
          have hag1 := hag1.moved (hm807.castL (by kernel_rfl))
          have hag := hag.moved (hm807.castL (by kernel_rfl))
          refine sim_know 54 (o.kind == 5) true (by kernel_rfl) (decide_eq_true (by omega)) ?_
          refine sim_run 8 [] (hR807.cast (by kernel_rfl)) (by kernel_rfl) trivial (fun ρ808 w808 hm808 hR808 => ?_)
          have hld := hld.moved (hm808.castL (by kernel_rfl))
          have hag1 := hag1.moved (hm808.castL (by kernel_rfl))
          have hag := hag.moved (hm808.castL (by kernel_rfl))
          refine sim_call 31 [.ptr 0 0, .agg [LS o.acc, LS o.asset], LB (o.kind == 4)] (by kernel_rfl) ?_
          have ez0_809 := (hag.at_ 0 (by omega)).trans e0
          simp only [denL, LV.den, Nm.at_, ez0_809, Nat.add_zero]
          refine Calls.mono (block_any _ (gl) (s) _ _ _ _ hld.ld (by assumption) (by assumption)) ?_
          rintro e809 w809 ⟨rfl, s', hl809, hbs, hk809, hh809⟩
          obtain ⟨hld2, hR809⟩ := hld.afterL hR808 hBw hl809 hbs.g hk809 hh809 (by rw [hsg]; kernel_rfl) [1] (by kernel_rfl) (by intro q hq; simp only [List.mem_singleton] at hq; subst hq; rw [hag.at_ 1 (by omega), eE]; exact Nat.lt_of_lt_of_le hgl hBw)
          clear hld
          have hld := hld2
          clear hld2
          refine Back.of (.tup []) hR809 rfl ?_
          refine sim_run 4 [] (hR809.cast (by kernel_rfl)) (by kernel_rfl) trivial (fun ρ810 w810 hm810 hR810 => ?_)
          have hag1 := hag1.moved (hm810.castL (by kernel_rfl))
          have hag := hag.moved (hm810.castL (by kernel_rfl))
          have hld := hld.moved (hm810.castL (by kernel_rfl))
          
          have hlv2 : Lvl (s') := lvl_block hlv hbs
          have hsg2 : (s').g = g := hbs.g.trans hsg
          have hll2 : (s').l.length ≤ (i + 1) * 1501 := by rw [hbs.l]; omega
          refine sim_to (regK Try.f10 22) (tmplJ Try.f10.ntmps 0 [(0, .v (.slice (some ⟨ga, oa, none⟩) n cp)), (3, .ptr 0 0), (4, LI ((less : Nat) : Int)), (5, LI i), (6, .ptr 2 0)]) [⟨ptrG g, false⟩, ⟨o.cells.map .v, false⟩, ⟨o.cells.map .v, true⟩] (by kernel_rfl) (by kernel_rfl) (by kernel_rfl) (fun d6 => ?_)
          refine totals_after ((by assumption : Rel _ _ _ _ _).cast (by kernel_rfl)) (hld.castR (by kernel_rfl)) hsg2 (by omega) (lvl_tot hlv2 hld.ld) (by omega) d6 (fun c' ρ' w' hk' hm' hl' hag' hR' htk hld' => ?_)
          have hag7 : Ag 1 ρ300 ρ' c'.rs := ⟨hag1.ag.trans hag'.ag (by omega), hag'.le⟩
          exact sim_again (i + 1, less) hk' (by show n - (i + 1) < n - i; omega) ((congrArg (mergeT · c'.tmps) (by kernel_rfl)).trans hm') ((congrArg List.length (by kernel_rfl)).trans hl') (by kernel_rfl) hag7.ag hR' htk (by kernel_rfl) ⟨hlt, by show less ≤ 7; omega, s', hld'.cut hag7 (by omega) rfl htk, hsg2, hlv2, hll2⟩
        · refine sim_run 8 [] (hRE.cast (by kernel_rfl)) (by kernel_rfl) trivial (fun ρ900 w900 hm900 hR900 => ?_)
          have hld := hld.moved (hm900.castL (by kernel_rfl))
          have hag1 := hag1.moved (hm900.castL (by kernel_rfl))
          have hag := hag.moved (hm900.castL (by kernel_rfl))
          refine sim_know 20 (decide ((↑(i, less).fst : Int) < (↑n : Int))) true (by kernel_rfl) (decide_eq_true (by omega)) ?_
          refine sim_run 8 [] (hR900.cast (by kernel_rfl)) (by kernel_rfl) trivial (fun ρ901 w901 hm901 hR901 => ?_)
          have hld := hld.moved (hm901.castL (by kernel_rfl))
          have hag1 := hag1.moved (hm901.castL (by kernel_rfl))
          have hag := hag.moved (hm901.castL (by kernel_rfl))
          refine sim_place (.v (.slice (some ⟨ga, oa, none⟩) n cp)) n 5 i 1 0 (by kernel_rfl) (by omega) (by omega) rfl (by simp only [Nm.at_, hag.at_ 1 (by omega), eE, Nat.add_zero, Int.toNat_natCast]) ?_
          refine sim_run 11 [] (hR901.cast (by kernel_rfl)) (by kernel_rfl) trivial (fun ρ903 w903 hm903 hR903 => ?_)
          have hld := hld.moved (hm903.castL (by kernel_rfl))
          have hag1 := hag1.moved (hm903.castL (by kernel_rfl))
          have hag := hag.moved (hm903.castL (by kernel_rfl))
          refine sim_know 30 (o.kind == 3) false (by kernel_rfl) (decide_eq_false (by omega)) ?_
          refine sim_run 13 [] (hR903.cast (by kernel_rfl)) (by kernel_rfl) trivial (fun ρ904 w904 hm904 hR904 => ?_)
          have hld := hld.moved (hm904.castL (by kernel_rfl))
          have hag1 := hag1.moved (hm904.castL (by kernel_rfl))
          have hag := hag.moved (hm904.castL (by kernel_rfl))
          refine sim_know 38 (decide ((↑(i, less).snd : Int) > 7)) false (by kernel_rfl) (decide_eq_false (by omega)) ?_
          refine sim_run 14 [] (hR904.cast (by kernel_rfl)) (by kernel_rfl) trivial (fun ρ905 w905 hm905 hR905 => ?_)
          have hld := hld.moved (hm905.castL (by kernel_rfl))
          have hag1 := hag1.moved (hm905.castL (by kernel_rfl))
          have hag := hag.moved (hm905.castL (by kernel_rfl))
          refine sim_know 46 (o.kind == 3) false (by kernel_rfl) (decide_eq_false (by omega)) ?_
          refine sim_run 7 [] (hR905.cast (by kernel_rfl)) (by kernel_rfl) trivial (fun ρ906 w906 hm906 hR906 => ?_)
          have hld := hld.moved (hm906.castL (by kernel_rfl))
          have hag1 := hag1.moved (hm906.castL (by kernel_rfl))
          have hag := hag.moved (hm906.castL (by kernel_rfl))
          refine sim_know 54 (o.kind == 4) false (by kernel_rfl) (decide_eq_false (by omega)) ?_
          refine sim_run 5 [] (hR906.cast (by kernel_rfl)) (by kernel_rfl) trivial (fun ρ907 w907 hm907 hR907 => ?_)
          have hld := hld.moved (hm907.castL (by kernel_rfl))
          have hag1 := hag1.moved (hm907.castL (by kernel_rfl))
          have hag := hag.moved (hm907.castL (by kernel_rfl))
          refine sim_know 54 (o.kind == 5) false (by kernel_rfl) (decide_eq_false (by omega)) ?_
          refine sim_run 5 [] (hR907.cast (by kernel_rfl)) (by kernel_rfl) trivial (fun ρ908 w908 hm908 hR908 => ?_)
          have hld := hld.moved (hm908.castL (by kernel_rfl))
          have hag1 := hag1.moved (hm908.castL (by kernel_rfl))
          have hag := hag.moved (hm908.castL (by kernel_rfl))
          refine sim_call 29 [.ptr 0 0, .v (Value.slice o.A o.n o.c)] (by kernel_rfl) ?_
          have ez0_909 := (hag.at_ 0 (by omega)).trans e0
          simp only [denL, LV.den, Nm.at_, ez0_909, Nat.add_zero]
          refine Calls.mono (apply_any _ (gl) _ (s) _ _ _ (o.ps) _ hld.ld ((hok.ps.at_ (hR908).toBelow).rd) (by omega) (by omega) (by assumption)) ?_
          rintro e909 w909 ⟨rfl, m2, l2, ck2, hl909, hget2, hlen2, hk909, hv909⟩
          obtain ⟨hld2, hR909⟩ := hld.afterL hR908 hBw hl909 rfl (hk909.mono (fun x hx => .inl (.inr (hx.elim .inl (fun e => .inr (.inl e)))))) (fun x hx => setPos_has hv909 hx) (by rw [hsg]; kernel_rfl) [1] (by kernel_rfl) (by intro q hq; simp only [List.mem_singleton] at hq; subst hq; rw [hag.at_ 1 (by omega), eE]; exact Nat.lt_of_lt_of_le hgl hBw)
          clear hld
          have hld := hld2
          clear hld2
          refine Back.of (LI (lookC s o.ps)) hR909 rfl ?_
          refine sim_run 4 [] (hR909.cast (by kernel_rfl)) (by kernel_rfl) trivial (fun ρ910 w910 hm910 hR910 => ?_)
          have hag1 := hag1.moved (hm910.castL (by kernel_rfl))
          have hag := hag.moved (hm910.castL (by kernel_rfl))
          have hld := hld.moved (hm910.castL (by kernel_rfl))
          
          have hlv2 : Lvl (s.setPos m2 l2 ck2) := lvl_apply hlv hok0 hfin0 hld.ld.pos.mp.fine hget2
          have hsg2 : (s.setPos m2 l2 ck2).g = g := hsg
          have hll2 : (s.setPos m2 l2 ck2).l.length ≤ (i + 1) * 1501 := by show l2.length ≤ _; omega
          refine sim_to (regK Try.f10 22) (tmplJ Try.f10.ntmps 0 [(0, .v (.slice (some ⟨ga, oa, none⟩) n cp)), (3, .ptr 0 0), (4, LI ((less : Nat) : Int)), (5, LI i), (6, .ptr 2 0)]) [⟨ptrG g, false⟩, ⟨o.cells.map .v, false⟩, ⟨o.cells.map .v, true⟩] (by kernel_rfl) (by kernel_rfl) (by kernel_rfl) (fun d6 => ?_)
          refine totals_after ((by assumption : Rel _ _ _ _ _).cast (by kernel_rfl)) (hld.castR (by kernel_rfl)) hsg2 (by omega) (lvl_tot hlv2 hld.ld) (by omega) d6 (fun c' ρ' w' hk' hm' hl' hag' hR' htk hld' => ?_)
          have hag7 : Ag 1 ρ300 ρ' c'.rs := ⟨hag1.ag.trans hag'.ag (by omega), hag'.le⟩
          exact sim_again (i + 1, less) hk' (by show n - (i + 1) < n - i; omega) ((congrArg (mergeT · c'.tmps) (by kernel_rfl)).trans hm') ((congrArg List.length (by kernel_rfl)).trans hl') (by kernel_rfl) hag7.ag hR' htk (by kernel_rfl) ⟨hlt, by show less ≤ 7; omega, s.setPos m2 l2 ck2, hld'.cut hag7 (by omega) rfl htk, hsg2, hlv2, hll2⟩
  · refine sim_run 8 [] (hR2.cast (by kernel_rfl)) (by kernel_rfl) trivial (fun ρ1000 w1000 hm1000 hR1000 => ?_)
    have hld := hld.moved (hm1000.castL (by kernel_rfl))
    have hag1 := hag1.moved (hm1000.castL (by kernel_rfl))
    refine sim_know 20 (decide ((↑(i, less).fst : Int) < (↑n : Int))) false (by kernel_rfl) (decide_eq_false (by omega)) ?_
    refine sim_run 1 [] (hR1000.cast (by kernel_rfl)) (by kernel_rfl) trivial (fun ρ1001 w1001 hm1001 hR1001 => ?_)
    have hld := hld.moved (hm1001.castL (by kernel_rfl))
    have hag1 := hag1.moved (hm1001.castL (by kernel_rfl))
    refine sim_leave (by kernel_rfl) ?_
    refine sim_run 2 [] (hR1001.cast (by kernel_rfl)) (by kernel_rfl) trivial (fun ρ1002 w1002 hm1002 hR1002 => ?_)
    have hld := hld.moved (hm1002.castL (by kernel_rfl))
    have hag1 := hag1.moved (hm1002.castL (by kernel_rfl))
    refine sim_call 23 [] (by kernel_rfl) ?_
    refine Calls.mono (alive11_any _) ?_
    rintro e1003 w1003 ⟨rfl, hb1003⟩
    have hR1003 := hR1002.below hb1003
    have hld := hld.below hb1003
    refine Back.of (LB true) hR1003 rfl ?_
    refine sim_run 2 [] (hR1003.cast (by kernel_rfl)) (by kernel_rfl) trivial (fun ρ1004 w1004 hm1004 hR1004 => ?_)
    have hag1 := hag1.moved (hm1004.castL (by kernel_rfl))
    have hld := hld.moved (hm1004.castL (by kernel_rfl))
    refine sim_ret (LB true) hR1004 (by kernel_rfl) (by kernel_rfl) ?_
    exact ⟨rfl, hR1004.toBelow⟩
    
set_option maxRecDepth 100000 in
set_option maxHeartbeats 4000000 in
theorem postTotals_walk (w : World) (A : Option Addr) (n cp M : Nat) (hM : M ≤ 281474976710656) (os : List OpL) (h : OpLs w A n M os) : Calls Try.prog 10 #[.slice A n cp] w fun e w' => e = .returned (.bool true) ∧ Below w.heap.size w w' := by
  have hmax := h.max
  have hlen := h.len
  refine sim_enter Try.func10 ρ0 [.v (.slice A n cp)] [] (by kernel_rfl) rfl ?_
  have hR := Rel.start [] w ρ0
  have hnp : ∀ o ∈ os, o.n ≤ maxLen := fun o ho => (h.ok o ho).ps.max
  cases hli : lightB os with
  | false =>
    refine sim_run 8 [] (hR.cast (by kernel_rfl)) (by kernel_rfl) trivial (fun ρ100 w100 hm100 hR100 => ?_)
    refine sim_call 28 [.v (Value.slice A n cp)] (by kernel_rfl) ?_
    refine Calls.mono (light11_any _ _ _ _ (os) _ ((h.at_ (by assumption : Rel _ _ _ _ _).toBelow).rd) (Nat.le_refl _) (hlen) (hmax) (hnp)) ?_
    rw [hli]
    rintro e101 w101 ⟨rfl, hb101⟩
    have hR101 := (hR100).below hb101
    refine Back.of (LB false) hR101 rfl ?_
    refine sim_run 5 [] (hR101.cast (by kernel_rfl)) (by kernel_rfl) trivial (fun ρ102 w102 hm102 hR102 => ?_)
    refine sim_call 23 [] (by kernel_rfl) ?_
    refine Calls.mono (alive11_any _) ?_
    rintro e103 w103 ⟨rfl, hb103⟩
    have hR103 := hR102.below hb103
    refine Back.of (LB true) hR103 rfl ?_
    refine sim_run 2 [] (hR103.cast (by kernel_rfl)) (by kernel_rfl) trivial (fun ρ104 w104 hm104 hR104 => ?_)
    refine sim_ret (LB true) hR104 (by kernel_rfl) (by kernel_rfl) ?_
    exact ⟨rfl, hR104.toBelow⟩
    
  | true =>
    obtain ⟨hn100, hn15⟩ := light_of hli
    refine sim_run 8 [] (hR.cast (by kernel_rfl)) (by kernel_rfl) trivial (fun ρ200 w200 hm200 hR200 => ?_)
    refine sim_call 28 [.v (Value.slice A n cp)] (by kernel_rfl) ?_
    refine Calls.mono (light11_any _ _ _ _ (os) _ ((h.at_ (by assumption : Rel _ _ _ _ _).toBelow).rd) (Nat.le_refl _) (hlen) (hmax) (hnp)) ?_
    rw [hli]
    rintro e201 w201 ⟨rfl, hb201⟩
    have hR201 := (hR200).below hb201
    refine Back.of (LB true) hR201 rfl ?_
    refine sim_run 6 [] (hR201.cast (by kernel_rfl)) (by kernel_rfl) trivial (fun ρ202 w202 hm202 hR202 => ?_)
    refine sim_call 24 [] (by kernel_rfl) ?_
    refine Calls.mono (newLd_any _) ?_
    rintro e203 w203 ⟨gl, g, rfl, hl203, hb203⟩
    have hBw := (hR202).keeps.size
    have hRr203 := (hR202).below hb203
    refine Back.view hl203 (hRr203.cast (by kernel_rfl)) (by kernel_rfl) (fun ρv e0 hR203 hld => ?_)
    have hag := hR203.ag_ 1 (by kernel_rfl)
    refine sim_run 12 [] (hR203.cast (by kernel_rfl)) (by kernel_rfl) trivial (fun ρ204 w204 hm204 hR204 => ?_)
    have hld := hld.moved (hm204.castL (by kernel_rfl))
    have hag := hag.moved (hm204.castL (by kernel_rfl))
    
    refine sim_to (regK Try.f10 6) (tmplJ Try.f10.ntmps 0 [(0, .v (.slice A n cp)), (3, .ptr 0 0)]) [⟨ptrG g, false⟩] (by kernel_rfl) (by kernel_rfl) (by kernel_rfl) (fun d0 => ?_)
    exact totals_outer hM h hn100 hn15 ((by assumption : Rel _ _ _ _ _).cast (by kernel_rfl)) (hld.castR (by kernel_rfl)) hBw d0
end Go.Proofs.Ytgbgedaedcofcaa
