/-
  complinelaw10.alive answers true.
-/
import Derived.Test.YtgbgedaedcofcaaPosG
namespace Go.Proofs.Ytgbgedaedcofcaa
open Go Go.RowKit
attribute [local irreducible] run goO leaveK someK nextK nextT nextOT nextOD loopBody loopRest loopK fillJ tmplOf tmplJ mergeT At AtO drawOk ordOf gateOf callC callO topOp topO idxOf appOf storeOf clearOf sliceOf calleeOf calleeO topQ idxQ newRowOf resL stepOp seek

set_option maxRecDepth 100000 in
set_option maxHeartbeats 4000000 in
theorem alive10_any (w : World) : Calls Try.prog 15 #[] w fun e w' => e = .returned (.bool true) ∧ Below w.heap.size w w' := by
  refine sim_enter Try.func15 ρ0 [] [] (by kernel_rfl) rfl ?_
  have hR := Rel.start [] w ρ0
  refine sim_run 6 [] (hR.cast (by kernel_rfl)) (by kernel_rfl) trivial (fun ρ100 w100 hm100 hR100 => ?_)
  refine sim_call 14 [] (by kernel_rfl) ?_
  refine Calls.mono (new_any _) ?_
  rintro e101 w101 ⟨g, rfl, hg101, hb101, hbel101⟩
  have hBw := hR100.keeps.size
  have hpo := PoO.new hR100 hg101 hb101
  have hR101 := hR100.below hbel101
  refine Back.of (.v (Value.pointer (some (Addr.mk g 0 none)))) hR101 rfl ?_
  refine sim_run 16 [] (hR101.cast (by kernel_rfl)) (by kernel_rfl) trivial (fun ρ102 w102 hm102 hR102 => ?_)
  have hpo := hpo.moved (hm102.castL (by kernel_rfl))
  refine sim_call 16 [.v (Value.pointer (some (Addr.mk g 0 none))), .agg [LS (ByteArray.mk #[65]), LS (ByteArray.mk #[88])], LI 0, LI 5] (by kernel_rfl) ?_
  refine Calls.mono (add_po _ _ _ _ _ _ _ _ _ _ hpo.po) ?_
  rintro e103 w103 ⟨v103, c103, rfl, hpo103, hk103, hv103⟩
  obtain ⟨hpo, hR103⟩ := hpo.after hR102 hBw hpo103 hk103 hv103 [] (by kernel_rfl) (by simp)
  refine Back.of (LI (addC (getM [] (ByteArray.mk #[65], ByteArray.mk #[88])) 0 5)) hR103 rfl ?_
  refine sim_run 5 [] (hR103.cast (by kernel_rfl)) (by kernel_rfl) trivial (fun ρ104 w104 hm104 hR104 => ?_)
  have hpo := hpo.moved (hm104.castL (by kernel_rfl))
  refine sim_call 16 [.v (Value.pointer (some (Addr.mk g 0 none))), .agg [LS (ByteArray.mk #[65]), LS (ByteArray.mk #[88])], LI 0, LI (-6)] (by kernel_rfl) ?_
  refine Calls.mono (add_po _ _ _ _ _ _ _ _ _ _ hpo.po) ?_
  rintro e105 w105 ⟨v105, c105, rfl, hpo105, hk105, hv105⟩
  obtain ⟨hpo, hR105⟩ := hpo.after hR104 hBw hpo105 hk105 hv105 [] (by kernel_rfl) (by simp)
  refine Back.of (LI (addC (getM (addL 0 [] (ByteArray.mk #[65], ByteArray.mk #[88]) 0 5) (ByteArray.mk #[65], ByteArray.mk #[88])) 0 (-6))) hR105 rfl ?_
  refine sim_run 9 [] (hR105.cast (by kernel_rfl)) (by kernel_rfl) trivial (fun ρ106 w106 hm106 hR106 => ?_)
  have hpo := hpo.moved (hm106.castL (by kernel_rfl))
  
  have hl : ∀ c, addL c (addL 0 [] (⟨#[65]⟩, ⟨#[88]⟩) 0 5) (⟨#[65]⟩, ⟨#[88]⟩) 0 (-6) = [⟨(⟨#[65]⟩, ⟨#[88]⟩), (5, 0, 0), 0⟩] := fun c => by kernel_rfl
  rw [hl] at hpo
  have hk : sortKs (pickKs [⟨#[88]⟩] [⟨(⟨#[65]⟩, ⟨#[88]⟩), (5, 0, 0), 0⟩]) = [(⟨#[65]⟩, ⟨#[88]⟩)] := by
    rw [show pickKs [⟨#[88]⟩] [⟨(⟨#[65]⟩, ⟨#[88]⟩), (5, 0, 0), 0⟩] = [(⟨#[65]⟩, ⟨#[88]⟩)] from by kernel_rfl]
    exact List.mergeSort_singleton _
  refine sim_call 18 [.v (Value.pointer (some (Addr.mk g 0 none))), .slc 1 0 1 1] (by kernel_rfl) ?_
  refine Calls.mono (keys_po _ _ _ _ _ _ _ _ _ ([⟨#[88]⟩]) _ hpo.po (hR106.readsP (n := 1) (size := 1) (m := 1) (vs := txtsV [⟨#[88]⟩]) (b := true) (by kernel_rfl) rfl) (by omega) (by omega) (by decide)) ?_
  rw [hk]
  rintro e200 w200 ⟨A200, cp200, rfl, ho200, hb200⟩
  rw [List.flatMap_def] at ho200
  have hrow := Own.start hR106 ho200
  have hR200 := hR106.below hb200
  have hpo := hpo.below hb200
  refine Back.of (.v (Value.slice A200 [(ByteArray.mk #[65], ByteArray.mk #[88])].length cp200)) hR200 rfl ?_
  refine sim_run 3 [] (hR200.cast (by kernel_rfl)) (by kernel_rfl) trivial (fun ρ201 w201 hm201 hR201 => ?_)
  have hrow := hrow.moved (hm201.castL (by kernel_rfl))
  have hpo := hpo.moved (hm201.castL (by kernel_rfl))
  
  obtain ⟨ga, oa, hA, _, _⟩ := (Reads.of_own hrow.own).spot (by decide) (by omega)
  subst hA
  have hrow : Own _ _ _ _ 24 2 (.slice (some ⟨ga, oa, none⟩) 1 cp200) 1 [[.string ⟨#[65]⟩, .string ⟨#[88]⟩]].flatten := hrow
  refine sim_seeO (xss := [[.string ⟨#[65]⟩, .string ⟨#[88]⟩]]) (sz := 2) (n := 1) [.string ⟨#[65]⟩, .string ⟨#[88]⟩] 0 2 (by kernel_rfl) (by rfl) hrow (by intro y hy; rw [List.mem_singleton.1 hy]; rfl) (by omega) (by omega) (by assumption : Rel _ _ _ _ _) (by kernel_rfl) (fun ρ4 hm4 e4 hR4 => ?_)
  have hpo := hpo.moved hm4
  have hag := hR4.ag_ 3 (by kernel_rfl)
  refine sim_draw [] (by kernel_rfl) (by kernel_rfl) hR4 (fun hR300 => ?_)
  have hrow := hrow.drew
  have hpo := hpo.drew
  refine sim_ordN 3 [] hR300 (by kernel_rfl) trivial (fun ρ301 w301 hm301 hR301 => ?_)
  have hag := hag.moved (hm301.castL (by kernel_rfl))
  have hpo := hpo.moved (hm301.castL (by kernel_rfl))
  refine sim_ord_call (T := []) (w0 := w) 17 [.v (Value.pointer (some (Addr.mk g 0 none))), .agg [LS (ByteArray.mk #[65]), LS (ByteArray.mk #[88])]] (by kernel_rfl) ?_
  refine Calls.mono (get_po _ _ _ _ _ _ _ _ hpo.po) ?_
  rintro e302 w302 ⟨rfl, hb302⟩
  have hR302 := hR301.call hb302 (.agg [LI ((getM [Ent.mk (ByteArray.mk #[65], ByteArray.mk #[88]) (5, 0, 0) 0] (ByteArray.mk #[65], ByteArray.mk #[88])).fst), LI ((getM [Ent.mk (ByteArray.mk #[65], ByteArray.mk #[88]) (5, 0, 0) 0] (ByteArray.mk #[65], ByteArray.mk #[88])).snd.fst), LI ((getM [Ent.mk (ByteArray.mk #[65], ByteArray.mk #[88]) (5, 0, 0) 0] (ByteArray.mk #[65], ByteArray.mk #[88])).snd.snd)])
  have hpo := hpo.below hb302
  refine BackO.of (.agg [LI ((getM [Ent.mk (ByteArray.mk #[65], ByteArray.mk #[88]) (5, 0, 0) 0] (ByteArray.mk #[65], ByteArray.mk #[88])).fst), LI ((getM [Ent.mk (ByteArray.mk #[65], ByteArray.mk #[88]) (5, 0, 0) 0] (ByteArray.mk #[65], ByteArray.mk #[88])).snd.fst), LI ((getM [Ent.mk (ByteArray.mk #[65], ByteArray.mk #[88]) (5, 0, 0) 0] (ByteArray.mk #[65], ByteArray.mk #[88])).snd.snd)]) hR302 rfl ?_
  refine sim_ordN 8 [] hR302 (by kernel_rfl) trivial (fun ρ303 w303 hm303 hR303 => ?_)
  have hag := hag.moved (hm303.castL (by kernel_rfl))
  have hpo := hpo.moved (hm303.castL (by kernel_rfl))
  refine sim_ord_index (.v (.slice (some ⟨ga, oa, none⟩) 1 cp200)) 1 2 0 2 0 (by kernel_rfl) (by omega) (by omega) rfl hR303 (by simp only [Nm.at_, hag.at_ 2 (by omega), e4]; rfl) (fun hR304 => ?_)
  refine sim_ordN 6 [] hR304 (by kernel_rfl) trivial (fun ρ305 w305 hm305 hR305 => ?_)
  have hag := hag.moved (hm305.castL (by kernel_rfl))
  have hpo := hpo.moved (hm305.castL (by kernel_rfl))
  refine sim_ord_call (T := []) (w0 := w) 21 [.v (Value.pointer (some (Addr.mk g 0 none))), LS (ByteArray.mk #[88])] (by kernel_rfl) ?_
  refine Calls.mono (total_po _ _ _ _ _ _ _ hpo.po (by decide)) ?_
  rw [hk]
  rintro e306 w306 ⟨rfl, hb306⟩
  have hR306 := hR305.call hb306 (LI (clampV (sumI (allOf [Ent.mk (ByteArray.mk #[65], ByteArray.mk #[88]) (5, 0, 0) 0] [(ByteArray.mk #[65], ByteArray.mk #[88])]))))
  have hpo := hpo.below hb306
  refine BackO.of (LI (clampV (sumI (allOf [Ent.mk (ByteArray.mk #[65], ByteArray.mk #[88]) (5, 0, 0) 0] [(ByteArray.mk #[65], ByteArray.mk #[88])])))) hR306 rfl ?_
  refine sim_ordN 5 [] hR306 (by kernel_rfl) trivial (fun ρ307 w307 hm307 hR307 => ?_)
  have hag := hag.moved (hm307.castL (by kernel_rfl))
  have hpo := hpo.moved (hm307.castL (by kernel_rfl))
  refine sim_ord_call (T := []) (w0 := w) 19 [.v (Value.pointer (some (Addr.mk g 0 none))), .agg [LS (ByteArray.mk #[65]), LS (ByteArray.mk #[88])], LI 1] (by kernel_rfl) ?_
  refine Calls.mono (part_po _ _ _ _ _ _ _ _ _ hpo.po) ?_
  rintro e308 w308 ⟨rfl, hb308⟩
  have hR308 := hR307.call hb308 (LI (partM (getM [Ent.mk (ByteArray.mk #[65], ByteArray.mk #[88]) (5, 0, 0) 0] (ByteArray.mk #[65], ByteArray.mk #[88])) 1))
  have hpo := hpo.below hb308
  refine BackO.of (LI (partM (getM [Ent.mk (ByteArray.mk #[65], ByteArray.mk #[88]) (5, 0, 0) 0] (ByteArray.mk #[65], ByteArray.mk #[88])) 1)) hR308 rfl ?_
  refine sim_ordN 3 [] hR308 (by kernel_rfl) trivial (fun ρ309 w309 hm309 hR309 => ?_)
  have hag := hag.moved (hm309.castL (by kernel_rfl))
  have hpo := hpo.moved (hm309.castL (by kernel_rfl))
  refine sim_ord_endR hR309 (by kernel_rfl) (fun hR310 => ?_)
  refine sim_ret (LB true) hR310 (by kernel_rfl) (by kernel_rfl) ?_
  exact ⟨rfl, hR310.toBelow⟩
  
end Go.Proofs.Ytgbgedaedcofcaa
