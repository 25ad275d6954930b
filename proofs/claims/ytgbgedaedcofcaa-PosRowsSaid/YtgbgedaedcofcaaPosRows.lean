/-
  Keys rise, and each has something; those of some assets are those of all that are of them: for every list of changes.
-/
import Derived.Test.YtgbgedaedcofcaaPosW4
namespace Go.Proofs.Ytgbgedaedcofcaa
open Go Go.RowKit
attribute [local irreducible] run goO leaveK someK nextK nextT nextOT nextOD loopBody loopRest loopK fillJ tmplOf tmplJ mergeT At AtO drawOk ordOf gateOf callC callO topOp topO idxOf appOf storeOf clearOf sliceOf calleeOf calleeO topQ idxQ newRowOf resL stepOp seek

set_option maxRecDepth 100000 in
set_option maxHeartbeats 4000000 in
theorem posRows_walk (w : World) (A : Option Addr) (n cp : Nat) (os : List OpP) (a b : ByteArray) (h : Ops w A n os) : Calls Try.prog 4 #[.slice A n cp, .string a, .string b] w fun e w' => e = .returned (.bool true) ∧ Below w.heap.size w w' := by
  have hmax := h.max
  refine sim_enter Try.func4 ρ0 [.v (.slice A n cp), LS a, LS b] [] (by kernel_rfl) rfl ?_
  have hR := Rel.start [] w ρ0
  refine sim_run 6 [] (hR.cast (by kernel_rfl)) (by kernel_rfl) trivial (fun ρ100 w100 hm100 hR100 => ?_)
  refine sim_call 14 [] (by kernel_rfl) ?_
  refine Calls.mono (new_any _) ?_
  rintro e101 w101 ⟨g, rfl, hg101, hb101, hbel101⟩
  have hBw := hR100.keeps.size
  have hpo := PoO.new hR100 hg101 hb101
  have hR101 := hR100.below hbel101
  refine Back.of (.v (Value.pointer (some (Addr.mk g 0 none)))) hR101 rfl ?_
  refine sim_run 13 [] (hR101.cast (by kernel_rfl)) (by kernel_rfl) trivial (fun ρ102 w102 hm102 hR102 => ?_)
  have hpo := hpo.moved (hm102.castL (by kernel_rfl))
  refine sim_fork 20 (decide ((↑n : Int) > 60)) (by kernel_rfl) (fun hq103 => ?_) (fun hq103 => ?_)
  have hq103 := of_decide_eq_true hq103
  refine sim_run 6 [] (hR102.cast (by kernel_rfl)) (by kernel_rfl) trivial (fun ρ104 w104 hm104 hR104 => ?_)
  have hpo := hpo.moved (hm104.castL (by kernel_rfl))
  refine sim_call 15 [] (by kernel_rfl) ?_
  refine Calls.mono (alive10_any _) ?_
  rintro e105 w105 ⟨rfl, hb105⟩
  have hR105 := hR104.below hb105
  have hpo := hpo.below hb105
  refine Back.of (LB true) hR105 rfl ?_
  refine sim_run 3 [] (hR105.cast (by kernel_rfl)) (by kernel_rfl) trivial (fun ρ106 w106 hm106 hR106 => ?_)
  have hpo := hpo.moved (hm106.castL (by kernel_rfl))
  refine sim_ret (LB true) hR106 (by kernel_rfl) (by kernel_rfl) ?_
  exact ⟨rfl, hR106.toBelow⟩
  have hq103 := of_decide_eq_false hq103
  refine sim_run 8 [] (hR102.cast (by kernel_rfl)) (by kernel_rfl) trivial (fun ρ107 w107 hm107 hR107 => ?_)
  have hpo := hpo.moved (hm107.castL (by kernel_rfl))
  
  have hn60 : n ≤ 60 := by omega
  refine sim_loop (ι := Nat) (T := []) (w0 := w) 0 [0, 1, 2, 7] (fun k => [(8, LI k)]) (fun _ => []) (fun k w1 => k ≤ n ∧ ∃ m l clock, PoO ρ107 [] w1 w100.heap.size g m l clock ∧ l.length ≤ k ∧ (∀ e ∈ l, e.key.1.size ≤ 9223372036854775807 ∧ e.key.2.size ≤ 9223372036854775807)) (fun k => n - k) (by kernel_rfl) (by kernel_rfl) (hR107.cast (by kernel_rfl)) ⟨Nat.zero_le _, none, [], 0, hpo.castR (by kernel_rfl), by simp, by simp⟩ ?_
  iterate 12 (try clear hpo)
  clear hR107 hm107
  rintro k d w2 hR2 ⟨hk, m, l, clock, hpo, hll, hsz⟩
  have hag := hR2.ag_ 0 (by kernel_rfl)
  by_cases hlt : k < n
  · obtain ⟨u, hu, hok, hx⟩ := h.get hlt
    refine sim_see u.cells k 0 (by kernel_rfl) hx h.rd (op_len os) (by omega) hlt (Nat.le_refl _) (by simp) hR2 (by kernel_rfl) (fun ga oa ρE eA hgT hgl hmE eE hRE => ?_)
    subst eA
    have hpo := hpo.moved hmE
    have hag1 := hag.moved hmE
    have hag := hRE.ag_ 1 (by kernel_rfl)
    refine sim_run 8 [] (hRE.cast (by kernel_rfl)) (by kernel_rfl) trivial (fun ρ200 w200 hm200 hR200 => ?_)
    have hpo := hpo.moved (hm200.castL (by kernel_rfl))
    have hag1 := hag1.moved (hm200.castL (by kernel_rfl))
    have hag := hag.moved (hm200.castL (by kernel_rfl))
    refine sim_know 29 (decide ((↑k : Int) < (↑n : Int))) true (by kernel_rfl) (decide_eq_true (by omega)) ?_
    refine sim_run 4 [] (hR200.cast (by kernel_rfl)) (by kernel_rfl) trivial (fun ρ201 w201 hm201 hR201 => ?_)
    have hpo := hpo.moved (hm201.castL (by kernel_rfl))
    have hag1 := hag1.moved (hm201.castL (by kernel_rfl))
    have hag := hag.moved (hm201.castL (by kernel_rfl))
    refine sim_draw [] (by kernel_rfl) (by kernel_rfl) hR201 (fun hR202 => ?_)
    have hpo := hpo.drew
    refine sim_ordN 3 [] hR202 (by kernel_rfl) trivial (fun ρ203 w203 hm203 hR203 => ?_)
    have hag1 := hag1.moved (hm203.castL (by kernel_rfl))
    have hag := hag.moved (hm203.castL (by kernel_rfl))
    have hpo := hpo.moved (hm203.castL (by kernel_rfl))
    refine sim_ord_index (.v (.slice (some ⟨ga, oa, none⟩) n cp)) n 4 k 0 0 (by kernel_rfl) (by omega) (by omega) rfl hR203 (by simp only [Nm.at_, hag.at_ 0 (by omega), eE, Nat.add_zero, Int.toNat_natCast]) (fun hR204 => ?_)
    refine sim_ordN 4 [] hR204 (by kernel_rfl) trivial (fun ρ205 w205 hm205 hR205 => ?_)
    have hag1 := hag1.moved (hm205.castL (by kernel_rfl))
    have hag := hag.moved (hm205.castL (by kernel_rfl))
    have hpo := hpo.moved (hm205.castL (by kernel_rfl))
    refine sim_ord_index (.v (.slice (some ⟨ga, oa, none⟩) n cp)) n 4 k 0 0 (by kernel_rfl) (by omega) (by omega) rfl hR205 (by simp only [Nm.at_, hag.at_ 0 (by omega), eE, Nat.add_zero, Int.toNat_natCast]) (fun hR206 => ?_)
    refine sim_ordN 4 [] hR206 (by kernel_rfl) trivial (fun ρ207 w207 hm207 hR207 => ?_)
    have hag1 := hag1.moved (hm207.castL (by kernel_rfl))
    have hag := hag.moved (hm207.castL (by kernel_rfl))
    have hpo := hpo.moved (hm207.castL (by kernel_rfl))
    refine sim_ord_index (.v (.slice (some ⟨ga, oa, none⟩) n cp)) n 4 k 0 0 (by kernel_rfl) (by omega) (by omega) rfl hR207 (by simp only [Nm.at_, hag.at_ 0 (by omega), eE, Nat.add_zero, Int.toNat_natCast]) (fun hR208 => ?_)
    refine sim_ordN 2 [] hR208 (by kernel_rfl) trivial (fun ρ209 w209 hm209 hR209 => ?_)
    have hag1 := hag1.moved (hm209.castL (by kernel_rfl))
    have hag := hag.moved (hm209.castL (by kernel_rfl))
    have hpo := hpo.moved (hm209.castL (by kernel_rfl))
    refine sim_ord_call (T := []) (w0 := w) 16 [.v (Value.pointer (some (Addr.mk g 0 none))), .agg [LS u.acc, LS u.asset], LI u.sub, LI u.amt] (by kernel_rfl) ?_
    refine Calls.mono (add_po _ _ _ _ _ _ _ _ _ _ hpo.po) ?_
    rintro e210 w210 ⟨v210, c210, rfl, hpo210, hk210, hv210⟩
    obtain ⟨hpo, hQ210⟩ := hpo.after hR209.rel hBw hpo210 hk210 hv210 [0] (by kernel_rfl) (by intro q hq; simp only [List.mem_singleton] at hq; subst hq; rw [hag.at_ 0 (by omega), eE]; exact hgl)
    have hR210 := hR209.with hQ210 (LI (addC (getM l (u.acc, u.asset)) u.sub u.amt))
    refine BackO.of (LI (addC (getM l (u.acc, u.asset)) u.sub u.amt)) hR210 rfl ?_
    refine sim_ord_endR hR210 (by kernel_rfl) (fun hR211 => ?_)
    refine sim_run 6 [⟨6, 1, LI (IntKind.i64.wrap ((↑k : Int) + 1)), LI ((↑k : Int) + 1)⟩] (hR211.cast (by kernel_rfl)) (by kernel_rfl) ⟨eqi (IntWalk.i64_in _ (by omega)), trivial⟩ (fun ρ212 w212 hm212 hR212 => ?_)
    have hag1 := hag1.moved (hm212.castL (by kernel_rfl))
    have hag := hag.moved (hm212.castL (by kernel_rfl))
    have hpo := hpo.moved (hm212.castL (by kernel_rfl))
    
    exact sim_again (k + 1) (by kernel_rfl) (by show n - (k + 1) < n - k; omega) (by kernel_rfl) (by kernel_rfl) (by kernel_rfl) hag1.ag (Rel.cast (by assumption) (by kernel_rfl)) (by kernel_rfl) (by kernel_rfl) ⟨hlt, _, _, _, hpo.cut hag1 rfl (by kernel_rfl), Nat.le_trans (addL_len _ _ _ _ _) (Nat.succ_le_succ hll), addL_keys (P := fun k => k.1.size ≤ 9223372036854775807 ∧ k.2.size ≤ 9223372036854775807) hsz ⟨hok.accS, hok.assetS⟩⟩
  · refine sim_run 8 [] (hR2.cast (by kernel_rfl)) (by kernel_rfl) trivial (fun ρ300 w300 hm300 hR300 => ?_)
    have hpo := hpo.moved (hm300.castL (by kernel_rfl))
    have hag := hag.moved (hm300.castL (by kernel_rfl))
    refine sim_know 29 (decide ((↑k : Int) < (↑n : Int))) false (by kernel_rfl) (decide_eq_false (by omega)) ?_
    refine sim_run 1 [] (hR300.cast (by kernel_rfl)) (by kernel_rfl) trivial (fun ρ301 w301 hm301 hR301 => ?_)
    have hpo := hpo.moved (hm301.castL (by kernel_rfl))
    have hag := hag.moved (hm301.castL (by kernel_rfl))
    refine sim_leave (by kernel_rfl) ?_
    refine sim_run 3 [] (hR301.cast (by kernel_rfl)) (by kernel_rfl) trivial (fun ρ302 w302 hm302 hR302 => ?_)
    have hpo := hpo.moved (hm302.castL (by kernel_rfl))
    have hag := hag.moved (hm302.castL (by kernel_rfl))
    refine sim_call 18 [.v (Value.pointer (some (Addr.mk g 0 none))), .v (Value.slice none 0 0)] (by kernel_rfl) ?_
    refine Calls.mono (keys_po _ _ _ _ _ _ _ _ (0) ([]) _ hpo.po ⟨rfl, fun h => absurd h (by omega)⟩ (by omega) (by omega) (by omega)) ?_
    rintro e303 w303 ⟨A303, cp303, rfl, ho303, hb303⟩
    rw [List.flatMap_def] at ho303
    have hrow := Own.start hR302 ho303
    have hR303 := hR302.below hb303
    have hpo := hpo.below hb303
    refine Back.of (.v (Value.slice A303 (sortKs (pickKs [] l)).length cp303)) hR303 rfl ?_
    refine sim_run 4 [] (hR303.cast (by kernel_rfl)) (by kernel_rfl) trivial (fun ρ304 w304 hm304 hR304 => ?_)
    have hag := hag.moved (hm304.castL (by kernel_rfl))
    have hrow := hrow.moved (hm304.castL (by kernel_rfl))
    have hpo := hpo.moved (hm304.castL (by kernel_rfl))
    
    have hlen : l.length ≤ 1000000 := by omega
    have hrowA := hrow
    clear hrow
    refine sim_run 4 [] hR304 (by kernel_rfl) trivial (fun ρ400 w400 hm400 hR400 => ?_)
    have hag := hag.moved hm400
    have hpo := hpo.moved hm400
    have hrowA := hrowA.moved hm400
    refine sim_call 18 [.v (Value.pointer (some (Addr.mk g 0 none))), .slc 0 0 2 2] (by kernel_rfl) ?_
    refine Calls.mono (keys_po _ _ _ _ _ _ _ _ _ ([a, b]) _ hpo.po (hR400.readsP (n := 0) (size := 1) (m := 2) (vs := txtsV [a, b]) (b := true) (by kernel_rfl) rfl) (by omega) (by omega) (by assumption)) ?_
    rintro e401 w401 ⟨A401, cp401, rfl, ho401, hb401⟩
    rw [List.flatMap_def] at ho401
    have hrow := Own.start hR400 ho401
    have hR401 := hR400.below hb401
    have hpo := hpo.below hb401
    have hrowA := hrowA.below hb401
    refine Back.of (.v (Value.slice A401 (sortKs (pickKs [a, b] l)).length cp401)) hR401 rfl ?_
    refine sim_run 12 [] (hR401.cast (by kernel_rfl)) (by kernel_rfl) trivial (fun ρ402 w402 hm402 hR402 => ?_)
    have hag := hag.moved (hm402.castL (by kernel_rfl))
    have hrow := hrow.moved (hm402.castL (by kernel_rfl))
    have hpo := hpo.moved (hm402.castL (by kernel_rfl))
    have hrowA := hrowA.moved (hm402.castL (by kernel_rfl))
    
    have hr := rows_at hpo.po.mp.fine hpo.po.nz a b
    have hk1 : (sortKs (pickKs [] l)).length ≤ l.length := by rw [sortKs_len]; exact pickKs_len _ _
    have hk2 : (sortKs (pickKs [a, b] l)).length ≤ l.length := by rw [sortKs_len]; exact pickKs_len _ _
    refine sim_to (loopK Try.f4 1) (tmplJ Try.f4.ntmps 0 [(1, LS a), (2, LS b), (7, .v (.pointer (some ⟨g, 0, none⟩))), (9, .v (.slice A303 (sortKs (pickKs [] l)).length cp303)), (10, .v (.slice A401 (sortKs (pickKs [a, b] l)).length cp401)), (11, LI 0), (12, LI 0)]) [] (by kernel_rfl) (by kernel_rfl) (by kernel_rfl) (fun d => ?_)
    exact rows_l2 hr (by assumption : Rel _ _ _ _ _).none0 hpo.none0 hrowA.own hrow.own (by omega) (by omega) hsz d
end Go.Proofs.Ytgbgedaedcofcaa
