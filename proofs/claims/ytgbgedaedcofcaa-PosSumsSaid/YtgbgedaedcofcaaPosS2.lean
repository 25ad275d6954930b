/-
  A total is the sum of what the accounts have of it, in all parts: the second loop.
-/
import Derived.Test.YtgbgedaedcofcaaPosS1
namespace Go.Proofs.Ytgbgedaedcofcaa
open Go Go.RowKit
attribute [local irreducible] run goO leaveK someK nextK nextT nextOT nextOD loopBody loopRest loopK fillJ tmplOf tmplJ mergeT At AtO drawOk ordOf gateOf callC callO topOp topO idxOf appOf storeOf clearOf sliceOf calleeOf calleeO topQ idxQ newRowOf resL stepOp seek

set_option maxRecDepth 100000 in
set_option maxHeartbeats 4000000 in
theorem sums_l2 {ρ : Nm} {w0 w : World} {B g : Nat} {m : Option Nat} {l : List (Ent Key B3)} {clock : Nat} {A : Option Addr} {n cp : Nat} {os : List OpP} (h : Ops w0 A n os) (hn100 : n ≤ 100) (hR : Rel [] w0 ρ [] w) (hpo : PoO ρ [] w B g m l clock) (hBw : w0.heap.size ≤ B) (hll : l.length ≤ n) (hle : sumAll l ≤ 112589990684262400) (d : Nat → Value) :
    At Try.prog (bodyPost Try.prog Try.f6 (fun e w' => e = .returned (.bool true) ∧ Below w0.heap.size w0 w')) ⟨loopK Try.f6 1, fillJ (tmplJ Try.f6.ntmps 0 [(0, .v (.slice A n cp)), (3, .v (.pointer (some ⟨g, 0, none⟩))), (5, LI 0)]) d 0, []⟩ ρ w := by
  have hmax := h.max
  refine sim_loop (ι := Nat) (T := []) (w0 := w0) 0 [0, 3] (fun i => [(5, LI i)]) (fun _ => []) (fun i w1 => i ≤ n ∧ PoO ρ [] w1 B g m l clock) (fun i => n - i) (by kernel_rfl) (by kernel_rfl) (hR.cast (by kernel_rfl)) ⟨Nat.zero_le _, hpo.castR (by kernel_rfl)⟩ ?_
  clear hpo hR
  rintro i d4 w4 hR4 ⟨hi, hpo⟩
  have hag := hR4.ag_ 0 (by kernel_rfl)
  by_cases hlt4 : i < n
  · obtain ⟨u, hu, hok, hx⟩ := h.get hlt4
    refine sim_see u.cells i 0 (by kernel_rfl) hx h.rd (op_len os) (by omega) hlt4 (Nat.le_refl _) (by simp) hR4 (by kernel_rfl) (fun ga oa ρE eA hgT hgl hmE eE hRE => ?_)
    subst eA
    have hpo := hpo.moved hmE
    have hag1 := hag.moved hmE
    have hag := hRE.ag_ 1 (by kernel_rfl)
    have hlen : l.length ≤ 1000000 := by omega
    refine sim_run 8 [] hRE (by kernel_rfl) trivial (fun ρ400 w400 hm400 hR400 => ?_)
    have hpo := hpo.moved (hm400.castL (by kernel_rfl))
    have hag1 := hag1.moved (hm400.castL (by kernel_rfl))
    have hag := hag.moved (hm400.castL (by kernel_rfl))
    refine sim_know 65 (decide ((↑i : Int) < (↑n : Int))) true (by kernel_rfl) (decide_eq_true (by omega)) ?_
    refine sim_run 8 [] (hR400.cast (by kernel_rfl)) (by kernel_rfl) trivial (fun ρ401 w401 hm401 hR401 => ?_)
    have hpo := hpo.moved (hm401.castL (by kernel_rfl))
    have hag1 := hag1.moved (hm401.castL (by kernel_rfl))
    have hag := hag.moved (hm401.castL (by kernel_rfl))
    refine sim_place (.v (.slice (some ⟨ga, oa, none⟩) n cp)) n 4 i 0 0 (by kernel_rfl) (by omega) (by omega) rfl (by simp only [Nm.at_, hag.at_ 0 (by omega), eE, Nat.add_zero, Int.toNat_natCast]) ?_
    refine sim_run 10 [] (hR401.cast (by kernel_rfl)) (by kernel_rfl) trivial (fun ρ403 w403 hm403 hR403 => ?_)
    have hpo := hpo.moved (hm403.castL (by kernel_rfl))
    have hag1 := hag1.moved (hm403.castL (by kernel_rfl))
    have hag := hag.moved (hm403.castL (by kernel_rfl))
    refine sim_call 18 [.v (Value.pointer (some (Addr.mk g 0 none))), .slc 1 0 1 1] (by kernel_rfl) ?_
    refine Calls.mono (keys_po _ _ _ _ _ _ _ _ _ ([u.asset]) _ hpo.po (hR403.readsP (n := 1) (size := 1) (m := 1) (vs := txtsV [u.asset]) (b := true) (by kernel_rfl) rfl) (by omega) (by omega) (by assumption)) ?_
    rintro e404 w404 ⟨A404, cp404, rfl, ho404, hb404⟩
    rw [List.flatMap_def] at ho404
    have hrow := Own.start hR403 ho404
    have hR404 := hR403.below hb404
    have hpo := hpo.below hb404
    refine Back.of (.v (Value.slice A404 (sortKs (pickKs [u.asset] l)).length cp404)) hR404 rfl ?_
    refine sim_run 12 [] (hR404.cast (by kernel_rfl)) (by kernel_rfl) trivial (fun ρ405 w405 hm405 hR405 => ?_)
    have hag1 := hag1.moved (hm405.castL (by kernel_rfl))
    have hag := hag.moved (hm405.castL (by kernel_rfl))
    have hrow := hrow.moved (hm405.castL (by kernel_rfl))
    have hpo := hpo.moved (hm405.castL (by kernel_rfl))
    
    have hsu := sums_at hpo.po.mp.fine hpo.po.ok hpo.po.nz u.asset
    have hcl := clamp_in (v := sumI (allOf l (sortKs (pickKs [u.asset] l)))) (by
      have h1 := hsu.ge (sortKs (pickKs [u.asset] l)).length
      have h2 := hsu.le (sortKs (pickKs [u.asset] l)).length
      rw [List.take_length] at h1 h2
      omega)
    have hrow := Own.none0 (ρ := ρ405) hrow.own
    have hpo := hpo.none0 (ρ' := ρ405)
    have hkl : (sortKs (pickKs [u.asset] l)).length ≤ l.length := by rw [sortKs_len]; exact pickKs_len _ _
    generalize hks : sortKs (pickKs [u.asset] l) = ks at hsu hcl hrow hkl ⊢
    refine sim_loop (ι := Nat) (T := []) (w0 := w0) 0 [0, 3, 5, 6, 7] (fun j => [(8, LI (sumI (allOf l (ks.take j)))), (9, LI j)]) (fun _ => []) (fun j w1 => j ≤ ks.length ∧ PoO ρ405 [] w1 B g m l clock ∧ Own ρ405 [] w1 w403.heap.size 24 2 (.slice A404 ks.length cp404) ks.length (ks.map encL).flatten) (fun j => ks.length - j) (by kernel_rfl) (by kernel_rfl) (Rel.none0 (by assumption : Rel _ _ ρ405 _ _)) ⟨Nat.zero_le _, hpo, hrow⟩ ?_
    iterate 12 (try clear hpo)
    iterate 12 (try clear hrow)
    iterate 12 (try clear hag)
    rintro j d5 w5 hR5 ⟨hj, hpo, hrow⟩
    have hag := hR5.ag_ 0 (by kernel_rfl)
    by_cases hlt5 : j < ks.length
    · obtain ⟨k, hk⟩ : ∃ k, ks[j]? = some k := ⟨_, List.getElem?_eq_getElem hlt5⟩
      obtain ⟨⟨b1, b2, b3⟩, hb⟩ : ∃ b, getM l (k.1, k.2) = b := ⟨_, rfl⟩
      have hb' : getM l k = (b1, b2, b3) := hb
      obtain ⟨hka, hkz⟩ := hsu.key k (List.mem_of_getElem? hk)
      have hbo := getM_ok hpo.po.ok k
      rw [hb'] at hbo hkz
      obtain ⟨⟨hb1, hb1'⟩, ⟨hb2, hb2'⟩, hb3, hb3'⟩ := hbo
      simp only at hb1 hb1' hb2 hb2' hb3 hb3'
      have hst := hsu.step j k hk
      have hs0 := hsu.ge j
      have hs1 := hsu.le (j + 1)
      rw [hb'] at hst
      have hst2 : sum3 (b1, b2, b3) = b1 + b2 + b3 := (Int.add_assoc b1 b2 b3).symm
      rw [hst2] at hst
      have hwh : clampV (sum3 (getM l (k.1, k.2))) = b1 + b2 + b3 := by rw [hb, hst2]; exact clamp_in (by omega)
      have hnz0 : b1 + b2 + b3 ≠ 0 := fun hz => hkz (by rw [show b1 = 0 by omega, show b2 = 0 by omega, show b3 = 0 by omega])
      generalize hS : sumI (allOf l (ks.take j)) = S at hst hs0 ⊢
      obtain ⟨gb, ob, hA, _, _⟩ := (Reads.of_own hrow.own).spot (by omega) (by omega)
      subst hA
      refine sim_seeO (xss := ks.map encL) (sz := 2) (n := ks.length) [.string k.1, .string k.2] j 0 (by kernel_rfl) (by rw [List.getElem?_map, hk]; rfl) hrow (encL_len ks) (by omega) hlt5 hR5 (by kernel_rfl) (fun ρF hmF eF hRF => ?_)
      have hpo := hpo.moved hmF
      have hrow := hrow.moved hmF
      have hag1 := hag.moved hmF
      have hag := hRF.ag_ 1 (by kernel_rfl)
      refine sim_run 8 [] hRF (by kernel_rfl) trivial (fun ρ600 w600 hm600 hR600 => ?_)
      have hpo := hpo.moved (hm600.castL (by kernel_rfl))
      have hrow := hrow.moved (hm600.castL (by kernel_rfl))
      have hag1 := hag1.moved (hm600.castL (by kernel_rfl))
      have hag := hag.moved (hm600.castL (by kernel_rfl))
      refine sim_know 81 (decide ((↑j : Int) < (↑ks.length : Int))) true (by kernel_rfl) (decide_eq_true (by omega)) ?_
      refine sim_run 9 [] (hR600.cast (by kernel_rfl)) (by kernel_rfl) trivial (fun ρ601 w601 hm601 hR601 => ?_)
      have hpo := hpo.moved (hm601.castL (by kernel_rfl))
      have hrow := hrow.moved (hm601.castL (by kernel_rfl))
      have hag1 := hag1.moved (hm601.castL (by kernel_rfl))
      have hag := hag.moved (hm601.castL (by kernel_rfl))
      refine sim_place (.v (.slice (some ⟨gb, ob, none⟩) ks.length cp404)) ks.length 2 j 0 0 (by kernel_rfl) (by omega) (by omega) rfl (by simp only [Nm.at_, hag.at_ 0 (by omega), eF, Nat.add_zero, Int.toNat_natCast]) ?_
      refine sim_run 1 [] (hR601.cast (by kernel_rfl)) (by kernel_rfl) trivial (fun ρ603 w603 hm603 hR603 => ?_)
      have hpo := hpo.moved (hm603.castL (by kernel_rfl))
      have hrow := hrow.moved (hm603.castL (by kernel_rfl))
      have hag1 := hag1.moved (hm603.castL (by kernel_rfl))
      have hag := hag.moved (hm603.castL (by kernel_rfl))
      refine sim_call 17 [.v (Value.pointer (some (Addr.mk g 0 none))), .agg [LS k.fst, LS k.snd]] (by kernel_rfl) ?_
      refine Calls.mono (get_po _ _ _ _ _ _ _ _ hpo.po) ?_
      rw [hb]
      rintro e604 w604 ⟨rfl, hb604⟩
      have hR604 := hR603.below hb604
      have hpo := hpo.below hb604
      have hrow := hrow.below hb604
      refine Back.of (.agg [LI ((b1, b2, b3).fst), LI ((b1, b2, b3).snd.fst), LI ((b1, b2, b3).snd.snd)]) hR604 rfl ?_
      refine sim_run 5 [] (hR604.cast (by kernel_rfl)) (by kernel_rfl) trivial (fun ρ605 w605 hm605 hR605 => ?_)
      have hag1 := hag1.moved (hm605.castL (by kernel_rfl))
      have hag := hag.moved (hm605.castL (by kernel_rfl))
      have hpo := hpo.moved (hm605.castL (by kernel_rfl))
      have hrow := hrow.moved (hm605.castL (by kernel_rfl))
      
      have hR6 := (Rel.cast (rs' := [⟨[LS k.1, LS k.2], false⟩, ⟨[LI b1, LI b2, LI b3], true⟩]) (by assumption) (by kernel_rfl))
      have hpo := hpo.castR (rs' := [⟨[LS k.1, LS k.2], false⟩, ⟨[LI b1, LI b2, LI b3], true⟩]) (by kernel_rfl)
      have hrow0 := hrow.castR (rs' := [⟨[LS k.1, LS k.2], false⟩, ⟨[LI b1, LI b2, LI b3], true⟩]) (by kernel_rfl)
      have eK := (hag.at_ 0 (by omega)).trans eF
      refine sim_to (regK Try.f6 20) (tmplJ Try.f6.ntmps 0 [(0, .v (.slice (some ⟨ga, oa, none⟩) n cp)), (3, .v (.pointer (some ⟨g, 0, none⟩))), (5, LI i), (6, LS u.asset), (7, .v (.slice (some ⟨gb, ob, none⟩) ks.length cp404)), (8, LI S), (9, LI j), (10, .ptr 1 0)]) [⟨[LS k.1, LS k.2], false⟩, ⟨[LI b1, LI b2, LI b3], true⟩] (by kernel_rfl) (by kernel_rfl) (by kernel_rfl) (fun d6 => ?_)
      refine sums_key hR6 hpo hrow0 eK hlt5 (by omega) hka hb1 hb2 hb3 hs0 (by omega) hwh hnz0 d6 (fun c' ρ' w' hk' hm' hl' hR' hpo' hown' => ?_)
      exact sim_rs [] (sim_again (j + 1) hk' (by show ks.length - (j + 1) < ks.length - j; omega) ((congrArg (mergeT · c'.tmps) (by rw [hst]; kernel_rfl)).trans hm') ((congrArg List.length (by rw [hst]; kernel_rfl)).trans hl') (by kernel_rfl) Agree.zero hR'.none0 (by kernel_rfl) (by kernel_rfl) ⟨hlt5, ⟨hpo', fun ⟨_, _, hr, _⟩ => by simp at hr, fun _ _ ⟨_, _, hr, _⟩ => by simp at hr⟩, Own.none0 hown'⟩)
    · have hje : j = ks.length := by omega
      subst hje
      refine sim_run 8 [] (hR5.cast (by kernel_rfl)) (by kernel_rfl) trivial (fun ρ700 w700 hm700 hR700 => ?_)
      have hpo := hpo.moved (hm700.castL (by kernel_rfl))
      have hrow := hrow.moved (hm700.castL (by kernel_rfl))
      have hag := hag.moved (hm700.castL (by kernel_rfl))
      refine sim_know 81 (decide ((↑ks.length : Int) < (↑ks.length : Int))) false (by kernel_rfl) (decide_eq_false (by omega)) ?_
      refine sim_run 1 [] (hR700.cast (by kernel_rfl)) (by kernel_rfl) trivial (fun ρ701 w701 hm701 hR701 => ?_)
      have hpo := hpo.moved (hm701.castL (by kernel_rfl))
      have hrow := hrow.moved (hm701.castL (by kernel_rfl))
      have hag := hag.moved (hm701.castL (by kernel_rfl))
      refine sim_leave (by kernel_rfl) ?_
      refine sim_run 4 [] (hR701.cast (by kernel_rfl)) (by kernel_rfl) trivial (fun ρ702 w702 hm702 hR702 => ?_)
      have hpo := hpo.moved (hm702.castL (by kernel_rfl))
      have hrow := hrow.moved (hm702.castL (by kernel_rfl))
      have hag := hag.moved (hm702.castL (by kernel_rfl))
      refine sim_call 21 [.v (Value.pointer (some (Addr.mk g 0 none))), LS u.asset] (by kernel_rfl) ?_
      refine Calls.mono (total_po _ _ _ _ _ _ _ hpo.po (by assumption)) ?_
      rw [hks, hcl]
      rintro e703 w703 ⟨rfl, hb703⟩
      have hR703 := hR702.below hb703
      have hpo := hpo.below hb703
      have hrow := hrow.below hb703
      refine Back.of (LI (sumI (allOf l ks))) hR703 rfl ?_
      refine sim_run 3 [] (hR703.cast (by kernel_rfl)) (by kernel_rfl) trivial (fun ρ704 w704 hm704 hR704 => ?_)
      have hag := hag.moved (hm704.castL (by kernel_rfl))
      have hpo := hpo.moved (hm704.castL (by kernel_rfl))
      have hrow := hrow.moved (hm704.castL (by kernel_rfl))
      refine sim_fork 150 (sumI (allOf l ks) != sumI (allOf l (List.take ks.length ks))) (by kernel_rfl) (fun hq705 => ?_) (fun hq705 => ?_)
      have hq705 := nb_t hq705
      have hq705 := of_decide_eq_false hq705
      refine sim_run 5 [] (hR704.cast (by kernel_rfl)) (by kernel_rfl) trivial (fun ρ706 w706 hm706 hR706 => ?_)
      have hag := hag.moved (hm706.castL (by kernel_rfl))
      have hpo := hpo.moved (hm706.castL (by kernel_rfl))
      have hrow := hrow.moved (hm706.castL (by kernel_rfl))
      refine sim_ret (LB false) hR706 (by kernel_rfl) (by kernel_rfl) ?_
      exact ⟨retv_bool (by clear hR706 hm706 hR704 hm704 hR703 hb703 hR702 hm702 hR701 hm701 hR700 hm700 hag hR5 hR405 hm405 hR404 hb404 hR403 hm403 hR401 hm401 hR400 hm400 hag1 hRE hmE hR4; grind []), hR706.toBelow⟩
      have hq705 := nb_f hq705
      have hq705 := of_decide_eq_true hq705
      refine sim_run 8 [⟨12, 1, LI (IntKind.i64.wrap ((↑i : Int) + 1)), LI ((↑i : Int) + 1)⟩] (hR704.cast (by kernel_rfl)) (by kernel_rfl) ⟨eqi (IntWalk.i64_in _ (by omega)), trivial⟩ (fun ρ707 w707 hm707 hR707 => ?_)
      have hag := hag.moved (hm707.castL (by kernel_rfl))
      have hpo := hpo.moved (hm707.castL (by kernel_rfl))
      have hrow := hrow.moved (hm707.castL (by kernel_rfl))
      
      have hcl2 : sumI (allOf l (List.take ks.length ks)) = sumI (allOf l ks) := by rw [List.take_length]
      exact sim_rs [] (sim_again (i + 1) (by kernel_rfl) (by show n - (i + 1) < n - i; omega) (by kernel_rfl) (by kernel_rfl) (by kernel_rfl) Agree.zero hR707.none0 (by kernel_rfl) (by kernel_rfl) ⟨hlt4, hpo.none0⟩)
  · have hie : i = n := by omega
    subst hie
    refine sim_run 8 [] (hR4.cast (by kernel_rfl)) (by kernel_rfl) trivial (fun ρ500 w500 hm500 hR500 => ?_)
    have hpo := hpo.moved (hm500.castL (by kernel_rfl))
    have hag := hag.moved (hm500.castL (by kernel_rfl))
    refine sim_know 65 (decide ((↑i : Int) < (↑i : Int))) false (by kernel_rfl) (decide_eq_false (by omega)) ?_
    refine sim_run 1 [] (hR500.cast (by kernel_rfl)) (by kernel_rfl) trivial (fun ρ501 w501 hm501 hR501 => ?_)
    have hpo := hpo.moved (hm501.castL (by kernel_rfl))
    have hag := hag.moved (hm501.castL (by kernel_rfl))
    refine sim_leave (by kernel_rfl) ?_
    refine sim_run 2 [] (hR501.cast (by kernel_rfl)) (by kernel_rfl) trivial (fun ρ502 w502 hm502 hR502 => ?_)
    have hpo := hpo.moved (hm502.castL (by kernel_rfl))
    have hag := hag.moved (hm502.castL (by kernel_rfl))
    refine sim_call 15 [] (by kernel_rfl) ?_
    refine Calls.mono (alive10_any _) ?_
    rintro e503 w503 ⟨rfl, hb503⟩
    have hR503 := hR502.below hb503
    have hpo := hpo.below hb503
    refine Back.of (LB true) hR503 rfl ?_
    refine sim_run 2 [] (hR503.cast (by kernel_rfl)) (by kernel_rfl) trivial (fun ρ504 w504 hm504 hR504 => ?_)
    have hag := hag.moved (hm504.castL (by kernel_rfl))
    have hpo := hpo.moved (hm504.castL (by kernel_rfl))
    refine sim_ret (LB true) hR504 (by kernel_rfl) (by kernel_rfl) ?_
    exact ⟨rfl, hR504.toBelow⟩
    
    all_goals sorry
end Go.Proofs.Ytgbgedaedcofcaa
