/-
  A total is the sum of what the accounts have of it, in all parts: for every list of changes.
-/
import Derived.Test.YtgbgedaedcofcaaPosS2
namespace Go.Proofs.Ytgbgedaedcofcaa
open Go Go.RowKit
attribute [local irreducible] run goO leaveK someK nextK nextT nextOT nextOD loopBody loopRest loopK fillJ tmplOf tmplJ mergeT At AtO drawOk ordOf gateOf callC callO topOp topO idxOf appOf storeOf clearOf sliceOf calleeOf calleeO topQ idxQ newRowOf resL stepOp seek

set_option maxRecDepth 100000 in
set_option maxHeartbeats 4000000 in
theorem posSums_walk (w : World) (A : Option Addr) (n cp : Nat) (os : List OpP) (h : Ops w A n os) : Calls Try.prog 6 #[.slice A n cp] w fun e w' => e = .returned (.bool true) ∧ Below w.heap.size w w' := by
  have hmax := h.max
  refine sim_enter Try.func6 ρ0 [.v (.slice A n cp)] [] (by kernel_rfl) rfl ?_
  have hR := Rel.start [] w ρ0
  refine sim_run 6 [] (hR.cast (by kernel_rfl)) (by kernel_rfl) trivial (fun ρ100 w100 hm100 hR100 => ?_)
  refine sim_call 14 [] (by kernel_rfl) ?_
  refine Calls.mono (new_any _) ?_
  rintro e101 w101 ⟨g, rfl, hg101, hb101, hbel101⟩
  have hBw := hR100.keeps.size
  have hpo := PoO.new hR100 hg101 hb101
  have hR101 := hR100.below hbel101
  refine Back.of (.v (Value.pointer (some (Addr.mk g 0 none)))) hR101 rfl ?_
  refine sim_run 13 [] (hR101.cast (by kernel_rfl)) (by kernel_rfl) trivial (fun ρ102 w102 hm102 hR102 => ?_)
  have hpo := hpo.moved (hm102.castL (by kernel_rfl))
  refine sim_fork 18 (decide ((↑n : Int) > 100)) (by kernel_rfl) (fun hq103 => ?_) (fun hq103 => ?_)
  have hq103 := of_decide_eq_true hq103
  refine sim_run 6 [] (hR102.cast (by kernel_rfl)) (by kernel_rfl) trivial (fun ρ104 w104 hm104 hR104 => ?_)
  have hpo := hpo.moved (hm104.castL (by kernel_rfl))
  refine sim_call 15 [] (by kernel_rfl) ?_
  refine Calls.mono (alive10_any _) ?_
  rintro e105 w105 ⟨rfl, hb105⟩
  have hR105 := hR104.below hb105
  have hpo := hpo.below hb105
  refine Back.of (LB true) hR105 rfl ?_
  refine sim_run 3 [] (hR105.cast (by kernel_rfl)) (by kernel_rfl) trivial (fun ρ106 w106 hm106 hR106 => ?_)
  have hpo := hpo.moved (hm106.castL (by kernel_rfl))
  refine sim_ret (LB true) hR106 (by kernel_rfl) (by kernel_rfl) ?_
  exact ⟨rfl, hR106.toBelow⟩
  have hq103 := of_decide_eq_false hq103
  refine sim_run 8 [] (hR102.cast (by kernel_rfl)) (by kernel_rfl) trivial (fun ρ107 w107 hm107 hR107 => ?_)
  have hpo := hpo.moved (hm107.castL (by kernel_rfl))
  
  have hn100 : n ≤ 100 := by omega
  refine sim_loop (ι := Nat) (T := []) (w0 := w) 0 [0, 3] (fun k => [(4, LI k)]) (fun _ => []) (fun k w1 => k ≤ n ∧ ∃ m l clock, PoO ρ107 [] w1 w100.heap.size g m l clock ∧ l.length ≤ k ∧ sumAll l ≤ k * 1125899906842624) (fun k => n - k) (by kernel_rfl) (by kernel_rfl) (hR107.cast (by kernel_rfl)) ⟨Nat.zero_le _, none, [], 0, hpo.castR (by kernel_rfl), by simp, by simp [sumAll]⟩ ?_
  iterate 12 (try clear hpo)
  clear hR107 hm107
  rintro k d w2 hR2 ⟨hk, m, l, clock, hpo, hll, hsm⟩
  have hag := hR2.ag_ 0 (by kernel_rfl)
  by_cases hlt : k < n
  · obtain ⟨u, hu, hok, hx⟩ := h.get hlt
    have hok1 := hok.amt
    unfold Is64 at hok1
    refine sim_see u.cells k 0 (by kernel_rfl) hx h.rd (op_len os) (by omega) hlt (Nat.le_refl _) (by simp) hR2 (by kernel_rfl) (fun ga oa ρE eA hgT hgl hmE eE hRE => ?_)
    subst eA
    have hpo := hpo.moved hmE
    have hag1 := hag.moved hmE
    have hag := hRE.ag_ 1 (by kernel_rfl)
    refine sim_run 8 [] hRE (by kernel_rfl) trivial (fun ρ200 w200 hm200 hR200 => ?_)
    have hpo := hpo.moved (hm200.castL (by kernel_rfl))
    have hag1 := hag1.moved (hm200.castL (by kernel_rfl))
    have hag := hag.moved (hm200.castL (by kernel_rfl))
    refine sim_know 27 (decide ((↑k : Int) < (↑n : Int))) true (by kernel_rfl) (decide_eq_true (by omega)) ?_
    refine sim_run 9 [] (hR200.cast (by kernel_rfl)) (by kernel_rfl) trivial (fun ρ201 w201 hm201 hR201 => ?_)
    have hpo := hpo.moved (hm201.castL (by kernel_rfl))
    have hag1 := hag1.moved (hm201.castL (by kernel_rfl))
    have hag := hag.moved (hm201.castL (by kernel_rfl))
    refine sim_place (.v (.slice (some ⟨ga, oa, none⟩) n cp)) n 4 k 0 0 (by kernel_rfl) (by omega) (by omega) rfl (by simp only [Nm.at_, hag.at_ 0 (by omega), eE, Nat.add_zero, Int.toNat_natCast]) ?_
    refine sim_run 4 [] (hR201.cast (by kernel_rfl)) (by kernel_rfl) trivial (fun ρ203 w203 hm203 hR203 => ?_)
    have hpo := hpo.moved (hm203.castL (by kernel_rfl))
    have hag1 := hag1.moved (hm203.castL (by kernel_rfl))
    have hag := hag.moved (hm203.castL (by kernel_rfl))
    refine sim_fork 36 (decide (u.amt > 1125899906842624)) (by kernel_rfl) (fun hq204 => ?_) (fun hq204 => ?_)
    have hq204 := of_decide_eq_true hq204
    refine sim_run 11 [] (hR203.cast (by kernel_rfl)) (by kernel_rfl) trivial (fun ρ205 w205 hm205 hR205 => ?_)
    have hpo := hpo.moved (hm205.castL (by kernel_rfl))
    have hag1 := hag1.moved (hm205.castL (by kernel_rfl))
    have hag := hag.moved (hm205.castL (by kernel_rfl))
    refine sim_call 15 [] (by kernel_rfl) ?_
    refine Calls.mono (alive10_any _) ?_
    rintro e206 w206 ⟨rfl, hb206⟩
    have hR206 := hR205.below hb206
    have hpo := hpo.below hb206
    refine Back.of (LB true) hR206 rfl ?_
    refine sim_run 2 [] (hR206.cast (by kernel_rfl)) (by kernel_rfl) trivial (fun ρ207 w207 hm207 hR207 => ?_)
    have hag1 := hag1.moved (hm207.castL (by kernel_rfl))
    have hag := hag.moved (hm207.castL (by kernel_rfl))
    have hpo := hpo.moved (hm207.castL (by kernel_rfl))
    refine sim_ret (LB true) hR207 (by kernel_rfl) (by kernel_rfl) ?_
    exact ⟨rfl, hR207.toBelow⟩
    have hq204 := of_decide_eq_false hq204
    refine sim_run 2 [] (hR203.cast (by kernel_rfl)) (by kernel_rfl) trivial (fun ρ208 w208 hm208 hR208 => ?_)
    have hpo := hpo.moved (hm208.castL (by kernel_rfl))
    have hag1 := hag1.moved (hm208.castL (by kernel_rfl))
    have hag := hag.moved (hm208.castL (by kernel_rfl))
    refine sim_place (.v (.slice (some ⟨ga, oa, none⟩) n cp)) n 4 k 0 0 (by kernel_rfl) (by omega) (by omega) rfl (by simp only [Nm.at_, hag.at_ 0 (by omega), eE, Nat.add_zero, Int.toNat_natCast]) ?_
    refine sim_run 5 [] (hR208.cast (by kernel_rfl)) (by kernel_rfl) trivial (fun ρ210 w210 hm210 hR210 => ?_)
    have hpo := hpo.moved (hm210.castL (by kernel_rfl))
    have hag1 := hag1.moved (hm210.castL (by kernel_rfl))
    have hag := hag.moved (hm210.castL (by kernel_rfl))
    refine sim_fork 43 (decide (u.amt < -1125899906842624)) (by kernel_rfl) (fun hq211 => ?_) (fun hq211 => ?_)
    have hq211 := of_decide_eq_true hq211
    refine sim_run 3 [] (hR210.cast (by kernel_rfl)) (by kernel_rfl) trivial (fun ρ212 w212 hm212 hR212 => ?_)
    have hpo := hpo.moved (hm212.castL (by kernel_rfl))
    have hag1 := hag1.moved (hm212.castL (by kernel_rfl))
    have hag := hag.moved (hm212.castL (by kernel_rfl))
    refine sim_call 15 [] (by kernel_rfl) ?_
    refine Calls.mono (alive10_any _) ?_
    rintro e213 w213 ⟨rfl, hb213⟩
    have hR213 := hR212.below hb213
    have hpo := hpo.below hb213
    refine Back.of (LB true) hR213 rfl ?_
    refine sim_run 2 [] (hR213.cast (by kernel_rfl)) (by kernel_rfl) trivial (fun ρ214 w214 hm214 hR214 => ?_)
    have hag1 := hag1.moved (hm214.castL (by kernel_rfl))
    have hag := hag.moved (hm214.castL (by kernel_rfl))
    have hpo := hpo.moved (hm214.castL (by kernel_rfl))
    refine sim_ret (LB true) hR214 (by kernel_rfl) (by kernel_rfl) ?_
    exact ⟨rfl, hR214.toBelow⟩
    have hq211 := of_decide_eq_false hq211
    refine sim_run 2 [] (hR210.cast (by kernel_rfl)) (by kernel_rfl) trivial (fun ρ215 w215 hm215 hR215 => ?_)
    have hpo := hpo.moved (hm215.castL (by kernel_rfl))
    have hag1 := hag1.moved (hm215.castL (by kernel_rfl))
    have hag := hag.moved (hm215.castL (by kernel_rfl))
    refine sim_draw [] (by kernel_rfl) (by kernel_rfl) hR215 (fun hR216 => ?_)
    have hpo := hpo.drew
    refine sim_ordN 3 [] hR216 (by kernel_rfl) trivial (fun ρ217 w217 hm217 hR217 => ?_)
    have hag1 := hag1.moved (hm217.castL (by kernel_rfl))
    have hag := hag.moved (hm217.castL (by kernel_rfl))
    have hpo := hpo.moved (hm217.castL (by kernel_rfl))
    refine sim_ord_index (.v (.slice (some ⟨ga, oa, none⟩) n cp)) n 4 k 0 0 (by kernel_rfl) (by omega) (by omega) rfl hR217 (by simp only [Nm.at_, hag.at_ 0 (by omega), eE, Nat.add_zero, Int.toNat_natCast]) (fun hR218 => ?_)
    refine sim_ordN 4 [] hR218 (by kernel_rfl) trivial (fun ρ219 w219 hm219 hR219 => ?_)
    have hag1 := hag1.moved (hm219.castL (by kernel_rfl))
    have hag := hag.moved (hm219.castL (by kernel_rfl))
    have hpo := hpo.moved (hm219.castL (by kernel_rfl))
    refine sim_ord_index (.v (.slice (some ⟨ga, oa, none⟩) n cp)) n 4 k 0 0 (by kernel_rfl) (by omega) (by omega) rfl hR219 (by simp only [Nm.at_, hag.at_ 0 (by omega), eE, Nat.add_zero, Int.toNat_natCast]) (fun hR220 => ?_)
    refine sim_ordN 4 [] hR220 (by kernel_rfl) trivial (fun ρ221 w221 hm221 hR221 => ?_)
    have hag1 := hag1.moved (hm221.castL (by kernel_rfl))
    have hag := hag.moved (hm221.castL (by kernel_rfl))
    have hpo := hpo.moved (hm221.castL (by kernel_rfl))
    refine sim_ord_index (.v (.slice (some ⟨ga, oa, none⟩) n cp)) n 4 k 0 0 (by kernel_rfl) (by omega) (by omega) rfl hR221 (by simp only [Nm.at_, hag.at_ 0 (by omega), eE, Nat.add_zero, Int.toNat_natCast]) (fun hR222 => ?_)
    refine sim_ordN 2 [] hR222 (by kernel_rfl) trivial (fun ρ223 w223 hm223 hR223 => ?_)
    have hag1 := hag1.moved (hm223.castL (by kernel_rfl))
    have hag := hag.moved (hm223.castL (by kernel_rfl))
    have hpo := hpo.moved (hm223.castL (by kernel_rfl))
    refine sim_ord_call (T := []) (w0 := w) 16 [.v (Value.pointer (some (Addr.mk g 0 none))), .agg [LS u.acc, LS u.asset], LI u.sub, LI u.amt] (by kernel_rfl) ?_
    refine Calls.mono (add_po _ _ _ _ _ _ _ _ _ _ hpo.po) ?_
    rintro e224 w224 ⟨v224, c224, rfl, hpo224, hk224, hv224⟩
    obtain ⟨hpo, hQ224⟩ := hpo.after hR223.rel hBw hpo224 hk224 hv224 [0] (by kernel_rfl) (by intro q hq; simp only [List.mem_singleton] at hq; subst hq; rw [hag.at_ 0 (by omega), eE]; exact hgl)
    have hR224 := hR223.with hQ224 (LI (addC (getM l (u.acc, u.asset)) u.sub u.amt))
    refine BackO.of (LI (addC (getM l (u.acc, u.asset)) u.sub u.amt)) hR224 rfl ?_
    refine sim_ord_endR hR224 (by kernel_rfl) (fun hR225 => ?_)
    refine sim_run 6 [⟨6, 1, LI (IntKind.i64.wrap ((↑k : Int) + 1)), LI ((↑k : Int) + 1)⟩] hR225 (by kernel_rfl) ⟨eqi (IntWalk.i64_in _ (by omega)), trivial⟩ (fun ρ226 w226 hm226 hR226 => ?_)
    have hag1 := hag1.moved (hm226.castL (by kernel_rfl))
    have hag := hag.moved (hm226.castL (by kernel_rfl))
    have hpo := hpo.moved (hm226.castL (by kernel_rfl))
    
    exact sim_again (k + 1) (by kernel_rfl) (by show n - (k + 1) < n - k; omega) (by kernel_rfl) (by kernel_rfl) (by kernel_rfl) hag1.ag (Rel.cast (by assumption) (by kernel_rfl)) (by kernel_rfl) (by kernel_rfl) ⟨hlt, _, _, _, hpo.cut hag1 rfl (by kernel_rfl), Nat.le_trans (addL_len _ _ _ _ _) (Nat.succ_le_succ hll), by rw [addL_sum]; split <;> omega⟩
  · have hke : k = n := by omega
    subst hke
    refine sim_run 8 [] (hR2.cast (by kernel_rfl)) (by kernel_rfl) trivial (fun ρ300 w300 hm300 hR300 => ?_)
    have hpo := hpo.moved (hm300.castL (by kernel_rfl))
    have hag := hag.moved (hm300.castL (by kernel_rfl))
    refine sim_know 27 (decide ((↑k : Int) < (↑k : Int))) false (by kernel_rfl) (decide_eq_false (by omega)) ?_
    refine sim_run 1 [] (hR300.cast (by kernel_rfl)) (by kernel_rfl) trivial (fun ρ301 w301 hm301 hR301 => ?_)
    have hpo := hpo.moved (hm301.castL (by kernel_rfl))
    have hag := hag.moved (hm301.castL (by kernel_rfl))
    refine sim_leave (by kernel_rfl) ?_
    refine sim_run 6 [] (hR301.cast (by kernel_rfl)) (by kernel_rfl) trivial (fun ρ302 w302 hm302 hR302 => ?_)
    have hpo := hpo.moved (hm302.castL (by kernel_rfl))
    have hag := hag.moved (hm302.castL (by kernel_rfl))
    
    have hle : sumAll l ≤ 112589990684262400 := by omega
    refine sim_to (loopK Try.f6 1) (tmplJ Try.f6.ntmps 0 [(0, .v (.slice A k cp)), (3, .v (.pointer (some ⟨g, 0, none⟩))), (5, LI 0)]) [] (by kernel_rfl) (by kernel_rfl) (by kernel_rfl) (fun d => ?_)
    exact sums_l2 h hn100 (hR302.cast (by kernel_rfl)) (hpo.castR (by kernel_rfl)) hBw hll hle d
end Go.Proofs.Ytgbgedaedcofcaa
