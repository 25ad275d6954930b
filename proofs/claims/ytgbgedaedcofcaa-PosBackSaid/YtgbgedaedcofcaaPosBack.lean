/-
  What is added and taken off again leaves all as it was; what is refused, too: for every list of changes and every change.
-/
import Derived.Test.YtgbgedaedcofcaaPosH
import Derived.Test.YtgbgedaedcofcaaPosR
import Derived.Test.YtgbgedaedcofcaaOpP
namespace Go.Proofs.Ytgbgedaedcofcaa
open Go Go.RowKit
attribute [local irreducible] run goO leaveK someK nextK nextT nextOT nextOD loopBody loopRest loopK fillJ tmplOf tmplJ mergeT At AtO drawOk ordOf gateOf callC callO topOp topO idxOf appOf storeOf clearOf sliceOf calleeOf calleeO topQ idxQ newRowOf resL stepOp seek

set_option maxRecDepth 100000 in
set_option maxHeartbeats 4000000 in
theorem posBack_walk (w : World) (A : Option Addr) (n cp : Nat) (os : List OpP) (o : OpP) (h : Ops w A n os) (ho : o.ok) : Calls Try.prog 3 #[.slice A n cp, o.val] w fun e w' => e = .returned (.bool true) ∧ Below w.heap.size w w' := by
  have hmax := h.max
  have hs1 := ho.sub
  have hs2 := ho.amt
  unfold Is64 at hs1 hs2
  refine sim_enter Try.func3 ρ0 [.v (.slice A n cp), .agg (o.cells.map .v)] [] (by kernel_rfl) (by simp only [denL, LV.den, denL_v]; rfl) ?_
  have hR := Rel.start [] w ρ0
  refine sim_run 7 [] (hR.cast (by kernel_rfl)) (by kernel_rfl) trivial (fun ρ100 w100 hm100 hR100 => ?_)
  refine sim_call 14 [] (by kernel_rfl) ?_
  refine Calls.mono (new_any _) ?_
  rintro e101 w101 ⟨g, rfl, hg101, hb101, hbel101⟩
  have hBw := hR100.keeps.size
  have hpo := PoO.new hR100 hg101 hb101
  have hR101 := hR100.below hbel101
  refine Back.of (.v (Value.pointer (some (Addr.mk g 0 none)))) hR101 rfl ?_
  refine sim_run 13 [] (hR101.cast (by kernel_rfl)) (by kernel_rfl) trivial (fun ρ102 w102 hm102 hR102 => ?_)
  have hpo := hpo.moved (hm102.castL (by kernel_rfl))
  refine sim_fork 18 (decide ((↑n : Int) > 60)) (by kernel_rfl) (fun hq103 => ?_) (fun hq103 => ?_)
  have hq103 := of_decide_eq_true hq103
  refine sim_run 6 [] (hR102.cast (by kernel_rfl)) (by kernel_rfl) trivial (fun ρ104 w104 hm104 hR104 => ?_)
  have hpo := hpo.moved (hm104.castL (by kernel_rfl))
  refine sim_call 15 [] (by kernel_rfl) ?_
  refine Calls.mono (alive10_any _) ?_
  rintro e105 w105 ⟨rfl, hb105⟩
  have hR105 := hR104.below hb105
  have hpo := hpo.below hb105
  refine Back.of (LB true) hR105 rfl ?_
  refine sim_run 3 [] (hR105.cast (by kernel_rfl)) (by kernel_rfl) trivial (fun ρ106 w106 hm106 hR106 => ?_)
  have hpo := hpo.moved (hm106.castL (by kernel_rfl))
  refine sim_ret (LB true) hR106 (by kernel_rfl) (by kernel_rfl) ?_
  exact ⟨rfl, hR106.toBelow⟩
  have hq103 := of_decide_eq_false hq103
  refine sim_run 8 [] (hR102.cast (by kernel_rfl)) (by kernel_rfl) trivial (fun ρ107 w107 hm107 hR107 => ?_)
  have hpo := hpo.moved (hm107.castL (by kernel_rfl))
  
  have hn60 : n ≤ 60 := by omega
  refine sim_loop (ι := Nat) (T := []) (w0 := w) 0 [0, 3, 5] (fun k => [(6, LI k)]) (fun _ => [⟨o.cells.map .v, true⟩]) (fun k w1 => k ≤ n ∧ ∃ m l clock, PoO ρ107 [⟨o.cells.map .v, true⟩] w1 w100.heap.size g m l clock ∧ l.length ≤ k) (fun k => n - k) (by kernel_rfl) (by kernel_rfl) (hR107.cast (by kernel_rfl)) ⟨Nat.zero_le _, none, [], 0, hpo.castR (by kernel_rfl), by simp⟩ ?_
  iterate 12 (try clear hpo)
  clear hR107 hm107
  rintro k d w2 hR2 ⟨hk, m, l, clock, hpo, hll⟩
  have hag := hR2.ag_ 1 (by kernel_rfl)
  by_cases hlt : k < n
  · obtain ⟨u, hu, hok, hx⟩ := h.get hlt
    refine sim_see u.cells k 1 (by kernel_rfl) hx h.rd (op_len os) (by omega) hlt (Nat.le_refl _) (by simp) hR2 (by kernel_rfl) (fun ga oa ρE eA hgT hgl hmE eE hRE => ?_)
    subst eA
    have hpo := hpo.moved hmE
    have hag1 := hag.moved hmE
    have hag := hRE.ag_ 2 (by kernel_rfl)
    refine sim_run 8 [] hRE (by kernel_rfl) trivial (fun ρ200 w200 hm200 hR200 => ?_)
    have hpo := hpo.moved (hm200.castL (by kernel_rfl))
    have hag1 := hag1.moved (hm200.castL (by kernel_rfl))
    have hag := hag.moved (hm200.castL (by kernel_rfl))
    refine sim_know 27 (decide ((↑k : Int) < (↑n : Int))) true (by kernel_rfl) (decide_eq_true (by omega)) ?_
    refine sim_run 4 [] (hR200.cast (by kernel_rfl)) (by kernel_rfl) trivial (fun ρ201 w201 hm201 hR201 => ?_)
    have hpo := hpo.moved (hm201.castL (by kernel_rfl))
    have hag1 := hag1.moved (hm201.castL (by kernel_rfl))
    have hag := hag.moved (hm201.castL (by kernel_rfl))
    refine sim_draw [] (by kernel_rfl) (by kernel_rfl) hR201 (fun hR202 => ?_)
    have hpo := hpo.drew
    refine sim_ordN 3 [] hR202 (by kernel_rfl) trivial (fun ρ203 w203 hm203 hR203 => ?_)
    have hag1 := hag1.moved (hm203.castL (by kernel_rfl))
    have hag := hag.moved (hm203.castL (by kernel_rfl))
    have hpo := hpo.moved (hm203.castL (by kernel_rfl))
    refine sim_ord_index (.v (.slice (some ⟨ga, oa, none⟩) n cp)) n 4 k 1 0 (by kernel_rfl) (by omega) (by omega) rfl hR203 (by simp only [Nm.at_, hag.at_ 1 (by omega), eE, Nat.add_zero, Int.toNat_natCast]) (fun hR204 => ?_)
    refine sim_ordN 4 [] hR204 (by kernel_rfl) trivial (fun ρ205 w205 hm205 hR205 => ?_)
    have hag1 := hag1.moved (hm205.castL (by kernel_rfl))
    have hag := hag.moved (hm205.castL (by kernel_rfl))
    have hpo := hpo.moved (hm205.castL (by kernel_rfl))
    refine sim_ord_index (.v (.slice (some ⟨ga, oa, none⟩) n cp)) n 4 k 1 0 (by kernel_rfl) (by omega) (by omega) rfl hR205 (by simp only [Nm.at_, hag.at_ 1 (by omega), eE, Nat.add_zero, Int.toNat_natCast]) (fun hR206 => ?_)
    refine sim_ordN 4 [] hR206 (by kernel_rfl) trivial (fun ρ207 w207 hm207 hR207 => ?_)
    have hag1 := hag1.moved (hm207.castL (by kernel_rfl))
    have hag := hag.moved (hm207.castL (by kernel_rfl))
    have hpo := hpo.moved (hm207.castL (by kernel_rfl))
    refine sim_ord_index (.v (.slice (some ⟨ga, oa, none⟩) n cp)) n 4 k 1 0 (by kernel_rfl) (by omega) (by omega) rfl hR207 (by simp only [Nm.at_, hag.at_ 1 (by omega), eE, Nat.add_zero, Int.toNat_natCast]) (fun hR208 => ?_)
    refine sim_ordN 2 [] hR208 (by kernel_rfl) trivial (fun ρ209 w209 hm209 hR209 => ?_)
    have hag1 := hag1.moved (hm209.castL (by kernel_rfl))
    have hag := hag.moved (hm209.castL (by kernel_rfl))
    have hpo := hpo.moved (hm209.castL (by kernel_rfl))
    refine sim_ord_call (T := []) (w0 := w) 16 [.v (Value.pointer (some (Addr.mk g 0 none))), .agg [LS u.acc, LS u.asset], LI u.sub, LI u.amt] (by kernel_rfl) ?_
    refine Calls.mono (add_po _ _ _ _ _ _ _ _ _ _ hpo.po) ?_
    rintro e210 w210 ⟨v210, c210, rfl, hpo210, hk210, hv210⟩
    obtain ⟨hpo, hQ210⟩ := hpo.after hR209.rel hBw hpo210 hk210 hv210 [1] (by kernel_rfl) (by intro q hq; simp only [List.mem_singleton] at hq; subst hq; rw [hag.at_ 1 (by omega), eE]; exact hgl)
    have hR210 := hR209.with hQ210 (LI (addC (getM l (u.acc, u.asset)) u.sub u.amt))
    refine BackO.of (LI (addC (getM l (u.acc, u.asset)) u.sub u.amt)) hR210 rfl ?_
    refine sim_ord_endR hR210 (by kernel_rfl) (fun hR211 => ?_)
    refine sim_run 6 [⟨6, 1, LI (IntKind.i64.wrap ((↑k : Int) + 1)), LI ((↑k : Int) + 1)⟩] hR211 (by kernel_rfl) ⟨eqi (IntWalk.i64_in _ (by omega)), trivial⟩ (fun ρ212 w212 hm212 hR212 => ?_)
    have hag1 := hag1.moved (hm212.castL (by kernel_rfl))
    have hag := hag.moved (hm212.castL (by kernel_rfl))
    have hpo := hpo.moved (hm212.castL (by kernel_rfl))
    
    exact sim_again (k + 1) (by kernel_rfl) (by show n - (k + 1) < n - k; omega) (by kernel_rfl) (by kernel_rfl) (by kernel_rfl) hag1.ag (Rel.cast (by assumption) (by kernel_rfl)) (by kernel_rfl) (by kernel_rfl) ⟨hlt, _, _, _, hpo.cut hag1 rfl (by kernel_rfl), Nat.le_trans (addL_len _ _ _ _ _) (Nat.succ_le_succ hll)⟩
  · have hfine := hpo.po.mp.fine
    have hnz := hpo.po.nz
    have hbk := backL hfine hpo.po.ok (k := (o.acc, o.asset)) (sub := o.sub) (by' := o.amt)
    have hew : addC (getM l (o.acc, o.asset)) o.sub o.amt = 0 → IntKind.i64.wrap (0 - o.amt) = -o.amt := fun hz => by
      have := addC_zero hz
      rw [IntWalk.i64_in _ (by omega)]
      omega
    have hl1 := addL_len l clock (o.acc, o.asset) o.sub o.amt
    have hl2 := fun c x => addL_len (addL clock l (o.acc, o.asset) o.sub o.amt) c (o.acc, o.asset) o.sub x
    have hlen1 : (addL clock l (o.acc, o.asset) o.sub o.amt).length ≤ 1000000 := by omega
    have hlen2 : ∀ c x, (addL c (addL clock l (o.acc, o.asset) o.sub o.amt) (o.acc, o.asset) o.sub x).length ≤ 1000000 := fun c x => by have := hl2 c x; omega
    refine sim_run 8 [] (hR2.cast (by kernel_rfl)) (by kernel_rfl) trivial (fun ρ300 w300 hm300 hR300 => ?_)
    have hpo := hpo.moved (hm300.castL (by kernel_rfl))
    have hag := hag.moved (hm300.castL (by kernel_rfl))
    refine sim_know 27 (decide ((↑k : Int) < (↑n : Int))) false (by kernel_rfl) (decide_eq_false (by omega)) ?_
    refine sim_run 1 [] (hR300.cast (by kernel_rfl)) (by kernel_rfl) trivial (fun ρ301 w301 hm301 hR301 => ?_)
    have hpo := hpo.moved (hm301.castL (by kernel_rfl))
    have hag := hag.moved (hm301.castL (by kernel_rfl))
    refine sim_leave (by kernel_rfl) ?_
    refine sim_run 5 [] (hR301.cast (by kernel_rfl)) (by kernel_rfl) trivial (fun ρ302 w302 hm302 hR302 => ?_)
    have hpo := hpo.moved (hm302.castL (by kernel_rfl))
    have hag := hag.moved (hm302.castL (by kernel_rfl))
    refine sim_call 17 [.v (Value.pointer (some (Addr.mk g 0 none))), .agg [LS o.acc, LS o.asset]] (by kernel_rfl) ?_
    refine Calls.mono (get_po _ _ _ _ _ _ _ _ hpo.po) ?_
    rintro e303 w303 ⟨rfl, hb303⟩
    have hR303 := hR302.below hb303
    have hpo := hpo.below hb303
    refine Back.of (.agg [LI ((getM l (o.acc, o.asset)).fst), LI ((getM l (o.acc, o.asset)).snd.fst), LI ((getM l (o.acc, o.asset)).snd.snd)]) hR303 rfl ?_
    refine sim_run 1 [] (hR303.cast (by kernel_rfl)) (by kernel_rfl) trivial (fun ρ304 w304 hm304 hR304 => ?_)
    have hag := hag.moved (hm304.castL (by kernel_rfl))
    have hpo := hpo.moved (hm304.castL (by kernel_rfl))
    refine sim_call 18 [.v (Value.pointer (some (Addr.mk g 0 none))), .v (Value.slice none 0 0)] (by kernel_rfl) ?_
    refine Calls.mono (keys_po _ _ _ _ _ _ _ _ (0) ([]) _ hpo.po ⟨rfl, fun h => absurd h (by omega)⟩ (by omega) (by omega) (by omega)) ?_
    rintro e305 w305 ⟨A305, cp305, rfl, ho305, hb305⟩
    rw [List.flatMap_def] at ho305
    have hrow := Own.start hR304 ho305
    have hR305 := hR304.below hb305
    have hpo := hpo.below hb305
    refine Back.of (.v (Value.slice A305 (sortKs (pickKs [] l)).length cp305)) hR305 rfl ?_
    refine sim_run 14 [] (hR305.cast (by kernel_rfl)) (by kernel_rfl) trivial (fun ρ306 w306 hm306 hR306 => ?_)
    have hag := hag.moved (hm306.castL (by kernel_rfl))
    have hrow := hrow.moved (hm306.castL (by kernel_rfl))
    have hpo := hpo.moved (hm306.castL (by kernel_rfl))
    refine sim_call 16 [.v (Value.pointer (some (Addr.mk g 0 none))), .agg [LS o.acc, LS o.asset], LI o.sub, LI o.amt] (by kernel_rfl) ?_
    refine Calls.mono (add_po _ _ _ _ _ _ _ _ _ _ hpo.po) ?_
    rintro e307 w307 ⟨v307, c307, rfl, hpo307, hk307, hv307⟩
    obtain ⟨hpo, hR307⟩ := hpo.after hR306 hBw hpo307 hk307 hv307 [] (by kernel_rfl) (by simp)
    refine Back.of (LI (addC (getM l (o.acc, o.asset)) o.sub o.amt)) hR307 rfl ?_
    refine sim_run 8 [] (hR307.cast (by kernel_rfl)) (by kernel_rfl) trivial (fun ρ308 w308 hm308 hR308 => ?_)
    have hag := hag.moved (hm308.castL (by kernel_rfl))
    have hpo := hpo.moved (hm308.castL (by kernel_rfl))
    refine sim_fork 63 (addC (getM l (o.acc, o.asset)) o.sub o.amt == 0) (by kernel_rfl) (fun hq309 => ?_) (fun hq309 => ?_)
    have hq309 := of_decide_eq_true hq309
    refine sim_run 8 [] (hR308.cast (by kernel_rfl)) (by kernel_rfl) trivial (fun ρ310 w310 hm310 hR310 => ?_)
    have hag := hag.moved (hm310.castL (by kernel_rfl))
    have hpo := hpo.moved (hm310.castL (by kernel_rfl))
    refine sim_call 19 [.v (Value.pointer (some (Addr.mk g 0 none))), .agg [LS o.acc, LS o.asset], LI o.sub] (by kernel_rfl) ?_
    refine Calls.mono (part_po _ _ _ _ _ _ _ _ _ hpo.po) ?_
    rintro e311 w311 ⟨rfl, hb311⟩
    have hR311 := hR310.below hb311
    have hpo := hpo.below hb311
    refine Back.of (LI (partM (getM (addL clock l (o.acc, o.asset) o.sub o.amt) (o.acc, o.asset)) o.sub)) hR311 rfl ?_
    refine sim_run 12 [] (hR311.cast (by kernel_rfl)) (by kernel_rfl) trivial (fun ρ312 w312 hm312 hR312 => ?_)
    have hag := hag.moved (hm312.castL (by kernel_rfl))
    have hpo := hpo.moved (hm312.castL (by kernel_rfl))
    refine sim_call 16 [.v (Value.pointer (some (Addr.mk g 0 none))), .agg [LS o.acc, LS o.asset], LI o.sub, LI (IntKind.i64.wrap (0 - o.amt))] (by kernel_rfl) ?_
    refine Calls.mono (add_po _ _ _ _ _ _ _ _ _ _ hpo.po) ?_
    rintro e313 w313 ⟨v313, c313, rfl, hpo313, hk313, hv313⟩
    obtain ⟨hpo, hR313⟩ := hpo.after hR312 hBw hpo313 hk313 hv313 [] (by kernel_rfl) (by simp)
    refine Back.of (LI (addC (getM (addL clock l (o.acc, o.asset) o.sub o.amt) (o.acc, o.asset)) o.sub (IntKind.i64.wrap (0 - o.amt)))) hR313 rfl ?_
    refine sim_run 2 [] (hR313.cast (by kernel_rfl)) (by kernel_rfl) trivial (fun ρ314 w314 hm314 hR314 => ?_)
    have hag := hag.moved (hm314.castL (by kernel_rfl))
    have hpo := hpo.moved (hm314.castL (by kernel_rfl))
    refine sim_fork 80 (addC (getM (addL clock l (o.acc, o.asset) o.sub o.amt) (o.acc, o.asset)) o.sub (IntKind.i64.wrap (0 - o.amt)) != 0) (by kernel_rfl) (fun hq315 => ?_) (fun hq315 => ?_)
    have hq315 := nb_t hq315
    have hq315 := of_decide_eq_false hq315
    refine sim_run 13 [] (hR314.cast (by kernel_rfl)) (by kernel_rfl) trivial (fun ρ316 w316 hm316 hR316 => ?_)
    have hag := hag.moved (hm316.castL (by kernel_rfl))
    have hpo := hpo.moved (hm316.castL (by kernel_rfl))
    refine sim_ret (LB false) hR316 (by kernel_rfl) (by kernel_rfl) ?_
    rotate_left
    have hq315 := nb_f hq315
    have hq315 := of_decide_eq_true hq315
    refine sim_run 4 [] (hR314.cast (by kernel_rfl)) (by kernel_rfl) trivial (fun ρ317 w317 hm317 hR317 => ?_)
    have hag := hag.moved (hm317.castL (by kernel_rfl))
    have hpo := hpo.moved (hm317.castL (by kernel_rfl))
    refine sim_fork 84 (decide (partM (getM (addL clock l (o.acc, o.asset) o.sub o.amt) (o.acc, o.asset)) o.sub < 0)) (by kernel_rfl) (fun hq318 => ?_) (fun hq318 => ?_)
    have hq318 := of_decide_eq_true hq318
    refine sim_run 9 [] (hR317.cast (by kernel_rfl)) (by kernel_rfl) trivial (fun ρ319 w319 hm319 hR319 => ?_)
    have hag := hag.moved (hm319.castL (by kernel_rfl))
    have hpo := hpo.moved (hm319.castL (by kernel_rfl))
    refine sim_ret (LB false) hR319 (by kernel_rfl) (by kernel_rfl) ?_
    rotate_left
    have hq318 := of_decide_eq_false hq318
    refine sim_run 4 [] (hR317.cast (by kernel_rfl)) (by kernel_rfl) trivial (fun ρ320 w320 hm320 hR320 => ?_)
    have hag := hag.moved (hm320.castL (by kernel_rfl))
    have hpo := hpo.moved (hm320.castL (by kernel_rfl))
    refine sim_fork 87 (decide (partM (getM (addL clock l (o.acc, o.asset) o.sub o.amt) (o.acc, o.asset)) o.sub > 1152921504606846976)) (by kernel_rfl) (fun hq321 => ?_) (fun hq321 => ?_)
    have hq321 := of_decide_eq_true hq321
    refine sim_run 5 [] (hR320.cast (by kernel_rfl)) (by kernel_rfl) trivial (fun ρ322 w322 hm322 hR322 => ?_)
    have hag := hag.moved (hm322.castL (by kernel_rfl))
    have hpo := hpo.moved (hm322.castL (by kernel_rfl))
    refine sim_ret (LB false) hR322 (by kernel_rfl) (by kernel_rfl) ?_
    rotate_left
    have hq321 := of_decide_eq_false hq321
    refine sim_run 3 [] (hR320.cast (by kernel_rfl)) (by kernel_rfl) trivial (fun ρ323 w323 hm323 hR323 => ?_)
    have hag := hag.moved (hm323.castL (by kernel_rfl))
    have hpo := hpo.moved (hm323.castL (by kernel_rfl))
    refine sim_draw [] (by kernel_rfl) (by kernel_rfl) hR323 (fun hR324 => ?_)
    have hpo := hpo.drew
    refine sim_ord_call (T := []) (w0 := w) 15 [] (by kernel_rfl) ?_
    refine Calls.mono (alive10_any _) ?_
    rintro e325 w325 ⟨rfl, hb325⟩
    have hR325 := hR324.call hb325 (LB true)
    have hpo := hpo.below hb325
    refine BackO.of (LB true) hR325 rfl ?_
    refine sim_ordN 5 [] hR325 (by kernel_rfl) trivial (fun ρ326 w326 hm326 hR326 => ?_)
    have hag := hag.moved (hm326.castL (by kernel_rfl))
    have hpo := hpo.moved (hm326.castL (by kernel_rfl))
    refine sim_ord_call (T := []) (w0 := w) 17 [.v (Value.pointer (some (Addr.mk g 0 none))), .agg [LS o.acc, LS o.asset]] (by kernel_rfl) ?_
    refine Calls.mono (get_po _ _ _ _ _ _ _ _ hpo.po) ?_
    rintro e327 w327 ⟨rfl, hb327⟩
    have hR327 := hR326.call hb327 (.agg [LI ((getM (addL c307 (addL clock l (o.acc, o.asset) o.sub o.amt) (o.acc, o.asset) o.sub (IntKind.i64.wrap (0 - o.amt))) (o.acc, o.asset)).fst), LI ((getM (addL c307 (addL clock l (o.acc, o.asset) o.sub o.amt) (o.acc, o.asset) o.sub (IntKind.i64.wrap (0 - o.amt))) (o.acc, o.asset)).snd.fst), LI ((getM (addL c307 (addL clock l (o.acc, o.asset) o.sub o.amt) (o.acc, o.asset) o.sub (IntKind.i64.wrap (0 - o.amt))) (o.acc, o.asset)).snd.snd)])
    have hpo := hpo.below hb327
    refine BackO.of (.agg [LI ((getM (addL c307 (addL clock l (o.acc, o.asset) o.sub o.amt) (o.acc, o.asset) o.sub (IntKind.i64.wrap (0 - o.amt))) (o.acc, o.asset)).fst), LI ((getM (addL c307 (addL clock l (o.acc, o.asset) o.sub o.amt) (o.acc, o.asset) o.sub (IntKind.i64.wrap (0 - o.amt))) (o.acc, o.asset)).snd.fst), LI ((getM (addL c307 (addL clock l (o.acc, o.asset) o.sub o.amt) (o.acc, o.asset) o.sub (IntKind.i64.wrap (0 - o.amt))) (o.acc, o.asset)).snd.snd)]) hR327 rfl ?_
    refine sim_ordN 3 [] hR327 (by kernel_rfl) trivial (fun ρ328 w328 hm328 hR328 => ?_)
    have hag := hag.moved (hm328.castL (by kernel_rfl))
    have hpo := hpo.moved (hm328.castL (by kernel_rfl))
    refine sim_forkO hR328 97 ((getM (addL c307 (addL clock l (o.acc, o.asset) o.sub o.amt) (o.acc, o.asset) o.sub (IntKind.i64.wrap (0 - o.amt))) (o.acc, o.asset)).fst == (getM l (o.acc, o.asset)).fst && ((getM (addL c307 (addL clock l (o.acc, o.asset) o.sub o.amt) (o.acc, o.asset) o.sub (IntKind.i64.wrap (0 - o.amt))) (o.acc, o.asset)).snd.fst == (getM l (o.acc, o.asset)).snd.fst && ((getM (addL c307 (addL clock l (o.acc, o.asset) o.sub o.amt) (o.acc, o.asset) o.sub (IntKind.i64.wrap (0 - o.amt))) (o.acc, o.asset)).snd.snd == (getM l (o.acc, o.asset)).snd.snd && true))) (by kernel_rfl) (fun hq329 hR329 => ?_) (fun hq329 hR329 => ?_)
    refine sim_ordN 2 [] hR329 (by kernel_rfl) trivial (fun ρ330 w330 hm330 hR330 => ?_)
    have hag := hag.moved (hm330.castL (by kernel_rfl))
    have hpo := hpo.moved (hm330.castL (by kernel_rfl))
    refine sim_ord_call (T := []) (w0 := w) 18 [.v (Value.pointer (some (Addr.mk g 0 none))), .v (Value.slice none 0 0)] (by kernel_rfl) ?_
    refine Calls.mono (keys_po _ _ _ _ _ _ _ _ (0) ([]) _ hpo.po ⟨rfl, fun h => absurd h (by omega)⟩ (by omega) (by omega) (hlen2 _ _)) ?_
    rintro e331 w331 ⟨A331, cp331, rfl, ho331, hb331⟩
    rw [List.flatMap_def] at ho331
    have hR331 := hR330.call hb331 (.v (Value.slice A331 (sortKs (pickKs [] (addL c307 (addL clock l (o.acc, o.asset) o.sub o.amt) (o.acc, o.asset) o.sub (IntKind.i64.wrap (0 - o.amt))))).length cp331))
    have hpo := hpo.below hb331
    refine BackO.of (.v (Value.slice A331 (sortKs (pickKs [] (addL c307 (addL clock l (o.acc, o.asset) o.sub o.amt) (o.acc, o.asset) o.sub (IntKind.i64.wrap (0 - o.amt))))).length cp331)) hR331 rfl ?_
    refine sim_ordN 4 [] hR331 (by kernel_rfl) trivial (fun ρ332 w332 hm332 hR332 => ?_)
    have hag := hag.moved (hm332.castL (by kernel_rfl))
    have hpo := hpo.moved (hm332.castL (by kernel_rfl))
    refine sim_ord_endR hR332 (by kernel_rfl) (fun hR333 => ?_)
    refine sim_ret (LB ((↑(sortKs (pickKs [] (addL c307 (addL clock l (o.acc, o.asset) o.sub o.amt) (o.acc, o.asset) o.sub (IntKind.i64.wrap (0 - o.amt))))).length : Int) == (↑(sortKs (pickKs [] l)).length : Int))) hR333 (by kernel_rfl) (by kernel_rfl) ?_
    rotate_left
    refine sim_ordN 7 [] hR329 (by kernel_rfl) trivial (fun ρ334 w334 hm334 hR334 => ?_)
    have hag := hag.moved (hm334.castL (by kernel_rfl))
    have hpo := hpo.moved (hm334.castL (by kernel_rfl))
    refine sim_ord_endR hR334 (by kernel_rfl) (fun hR335 => ?_)
    refine sim_ret (LB false) hR335 (by kernel_rfl) (by kernel_rfl) ?_
    rotate_left
    have hq309 := of_decide_eq_false hq309
    refine sim_run 3 [] (hR308.cast (by kernel_rfl)) (by kernel_rfl) trivial (fun ρ336 w336 hm336 hR336 => ?_)
    have hag := hag.moved (hm336.castL (by kernel_rfl))
    have hpo := hpo.moved (hm336.castL (by kernel_rfl))
    refine sim_draw [] (by kernel_rfl) (by kernel_rfl) hR336 (fun hR337 => ?_)
    have hpo := hpo.drew
    refine sim_ord_call (T := []) (w0 := w) 15 [] (by kernel_rfl) ?_
    refine Calls.mono (alive10_any _) ?_
    rintro e338 w338 ⟨rfl, hb338⟩
    have hR338 := hR337.call hb338 (LB true)
    have hpo := hpo.below hb338
    refine BackO.of (LB true) hR338 rfl ?_
    refine sim_ordN 5 [] hR338 (by kernel_rfl) trivial (fun ρ339 w339 hm339 hR339 => ?_)
    have hag := hag.moved (hm339.castL (by kernel_rfl))
    have hpo := hpo.moved (hm339.castL (by kernel_rfl))
    refine sim_ord_call (T := []) (w0 := w) 17 [.v (Value.pointer (some (Addr.mk g 0 none))), .agg [LS o.acc, LS o.asset]] (by kernel_rfl) ?_
    refine Calls.mono (get_po _ _ _ _ _ _ _ _ hpo.po) ?_
    rintro e340 w340 ⟨rfl, hb340⟩
    have hR340 := hR339.call hb340 (.agg [LI ((getM (addL clock l (o.acc, o.asset) o.sub o.amt) (o.acc, o.asset)).fst), LI ((getM (addL clock l (o.acc, o.asset) o.sub o.amt) (o.acc, o.asset)).snd.fst), LI ((getM (addL clock l (o.acc, o.asset) o.sub o.amt) (o.acc, o.asset)).snd.snd)])
    have hpo := hpo.below hb340
    refine BackO.of (.agg [LI ((getM (addL clock l (o.acc, o.asset) o.sub o.amt) (o.acc, o.asset)).fst), LI ((getM (addL clock l (o.acc, o.asset) o.sub o.amt) (o.acc, o.asset)).snd.fst), LI ((getM (addL clock l (o.acc, o.asset) o.sub o.amt) (o.acc, o.asset)).snd.snd)]) hR340 rfl ?_
    refine sim_ordN 3 [] hR340 (by kernel_rfl) trivial (fun ρ341 w341 hm341 hR341 => ?_)
    have hag := hag.moved (hm341.castL (by kernel_rfl))
    have hpo := hpo.moved (hm341.castL (by kernel_rfl))
    refine sim_forkO hR341 97 ((getM (addL clock l (o.acc, o.asset) o.sub o.amt) (o.acc, o.asset)).fst == (getM l (o.acc, o.asset)).fst && ((getM (addL clock l (o.acc, o.asset) o.sub o.amt) (o.acc, o.asset)).snd.fst == (getM l (o.acc, o.asset)).snd.fst && ((getM (addL clock l (o.acc, o.asset) o.sub o.amt) (o.acc, o.asset)).snd.snd == (getM l (o.acc, o.asset)).snd.snd && true))) (by kernel_rfl) (fun hq342 hR342 => ?_) (fun hq342 hR342 => ?_)
    refine sim_ordN 2 [] hR342 (by kernel_rfl) trivial (fun ρ343 w343 hm343 hR343 => ?_)
    have hag := hag.moved (hm343.castL (by kernel_rfl))
    have hpo := hpo.moved (hm343.castL (by kernel_rfl))
    refine sim_ord_call (T := []) (w0 := w) 18 [.v (Value.pointer (some (Addr.mk g 0 none))), .v (Value.slice none 0 0)] (by kernel_rfl) ?_
    refine Calls.mono (keys_po _ _ _ _ _ _ _ _ (0) ([]) _ hpo.po ⟨rfl, fun h => absurd h (by omega)⟩ (by omega) (by omega) (by assumption)) ?_
    rintro e344 w344 ⟨A344, cp344, rfl, ho344, hb344⟩
    rw [List.flatMap_def] at ho344
    have hR344 := hR343.call hb344 (.v (Value.slice A344 (sortKs (pickKs [] (addL clock l (o.acc, o.asset) o.sub o.amt))).length cp344))
    have hpo := hpo.below hb344
    refine BackO.of (.v (Value.slice A344 (sortKs (pickKs [] (addL clock l (o.acc, o.asset) o.sub o.amt))).length cp344)) hR344 rfl ?_
    refine sim_ordN 4 [] hR344 (by kernel_rfl) trivial (fun ρ345 w345 hm345 hR345 => ?_)
    have hag := hag.moved (hm345.castL (by kernel_rfl))
    have hpo := hpo.moved (hm345.castL (by kernel_rfl))
    refine sim_ord_endR hR345 (by kernel_rfl) (fun hR346 => ?_)
    refine sim_ret (LB ((↑(sortKs (pickKs [] (addL clock l (o.acc, o.asset) o.sub o.amt))).length : Int) == (↑(sortKs (pickKs [] l)).length : Int))) hR346 (by kernel_rfl) (by kernel_rfl) ?_
    rotate_left
    refine sim_ordN 7 [] hR342 (by kernel_rfl) trivial (fun ρ347 w347 hm347 hR347 => ?_)
    have hag := hag.moved (hm347.castL (by kernel_rfl))
    have hpo := hpo.moved (hm347.castL (by kernel_rfl))
    refine sim_ord_endR hR347 (by kernel_rfl) (fun hR348 => ?_)
    refine sim_ret (LB false) hR348 (by kernel_rfl) (by kernel_rfl) ?_
    rotate_left
    
    · exact absurd (by rw [hew hq309]; exact (hbk hq309).code) hq315
    · exact absurd (hbk hq309).now.1 (by omega)
    · exact absurd (hbk hq309).now.2 (by omega)
    · have hpf := hpo.po.mp.fine
      have hpz := hpo.po.nz
      rw [hew hq309] at hpf hpz ⊢
      refine ⟨retv_bool ?_, (by assumption : Rel _ _ _ _ _).toBelow⟩
      rw [keys_same hfine hnz hpf hpz ((hbk hq309).get _ hpo307.mp.fine)]
      simp
    · rw [hew hq309, (hbk hq309).get _ hpo307.mp.fine] at hq329
      simp at hq329
    · refine ⟨retv_bool ?_, (by assumption : Rel _ _ _ _ _).toBelow⟩
      rw [no_add hq309]
      simp
    · rw [no_add hq309] at hq342
      simp at hq342
end Go.Proofs.Ytgbgedaedcofcaa
