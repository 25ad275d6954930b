/-
  LinkTries behind its loop: what Try says, and what Add makes of it.
-/
import Derived.Test.YtnfgndapalkbcaaLinkTries3
namespace Go.Proofs.Ytnfgndapalkbcaa
open Go Go.RowKit
theorem cls_le (u : List Nat) (h : Nat) : (Uf.cls u h).length ≤ u.length := by
  unfold Uf.cls
  exact Nat.le_trans (List.length_filter_le _ _) (by rw [List.length_range']; exact Nat.le_refl _)
theorem heads_le (u : List Nat) : (Uf.heads u).length ≤ u.length := by rw [← Uf.classes_length]; exact classes_le u
attribute [local irreducible] run goO leaveK someK nextK nextT nextOT nextOD loopBody loopRest loopK fillJ tmplOf tmplJ mergeT At AtO drawOk ordOf gateOf callC callO topOp topO idxOf appOf storeOf clearOf sliceOf calleeOf calleeO topQ idxQ newRowOf resL stepOp seek
set_option maxRecDepth 100000 in
set_option maxHeartbeats 4000000 in
theorem tries_tail (w0 : World) (q : GrP) (u : List Nat) (ls : List Lk) (A2 : Option Addr) (k2 c2 : Nat) (m : List Lk) (hml : Lks w0 A2 k2 m) (hk60 : k2 ≤ 60) (w : World) (ρ : Nm) (hR : Rel [] w0 ρ [gR q] w) (hs : Sta q.has (GrV q u ls) ρ [gR q] w) (e0 : ρ 0 = (q.b, 0)) (hGI : GInv u ls) (hT0 : ∀ y, q.has y → y ∈ ([] : List Nat) ∨ w0.heap.size ≤ y) (d : Nat → Value) :
    At Try.prog (bodyPost Try.prog Try.f5 (okP w0)) ⟨regK Try.f5 10, fillJ (tmplJ Try.f5.ntmps 0 [(2, .v (.slice A2 k2 c2)), (7, .ptr 0 0)]) d 0, [gR q]⟩ ρ w := by
  obtain ⟨b, pb, pg, Ap, cp, L, cl⟩ := q
  have hag := hR.ag_ 1 (by kernel_rfl)
  have hlm := lkV_num hml.rd
  have hfew := hGI.few
  refine sim_run 1 [] (hR.cast (by kernel_rfl)) (by kernel_rfl) trivial (fun ρ1000 w1000 hm1000 hR1000 => ?_)
  have hs := hs.moved (hm1000.castL (by kernel_rfl))
  have hag := hag.moved (hm1000.castL (by kernel_rfl))
  refine sim_call 17 [.ptr 0 0] (by kernel_rfl) ?_
  have ez0_1001 := (hag.at_ 0 (by omega)).trans e0
  simp only [denL, LV.den, Nm.at_, ez0_1001, Nat.add_zero]
  refine Calls.mono (links_any (⟨b, pb, pg, Ap, cp, L, cl⟩) _ _ _ (hs.is) (hGI)) ?_
  rintro e1001 w1001 ⟨Aw, cw, rfl, ho1001, hb1001⟩
  have hwas := Sta.ownR (hR1000) ho1001
  have hqw := hs.lt
  have hR1001 := (hR1000).below hb1001
  have hs := hs.below hb1001
  refine Back.of (.v (.slice Aw ls.length cw)) hR1001 rfl ?_
  refine sim_run 1 [] (hR1001.cast (by kernel_rfl)) (by kernel_rfl) trivial (fun ρ1002 w1002 hm1002 hR1002 => ?_)
  have hag := hag.moved (hm1002.castL (by kernel_rfl))
  have hwas := hwas.moved (hm1002.castL (by kernel_rfl))
  have hs := hs.moved (hm1002.castL (by kernel_rfl))
  refine sim_call 16 [.ptr 0 0] (by kernel_rfl) ?_
  have ez0_1003 := (hag.at_ 0 (by omega)).trans e0
  simp only [denL, LV.den, Nm.at_, ez0_1003, Nat.add_zero]
  refine Calls.mono (orderG_any (⟨b, pb, pg, Ap, cp, L, cl⟩) _ _ _ (hs.is) (hGI)) ?_
  rintro e1003 w1003 ⟨Lo, co, rfl, hr1003, hb1003⟩
  have hrow := Sta.rows (hR1002) hr1003
  have hqo := hs.lt
  have hR1003 := (hR1002).below hb1003
  have hwas := hwas.below hb1003
  have hs := hs.below hb1003
  refine Back.of (.v (.slice Lo (Uf.orderM u ls).length co)) hR1003 rfl ?_
  refine sim_run 5 [] (hR1003.cast (by kernel_rfl)) (by kernel_rfl) trivial (fun ρ1004 w1004 hm1004 hR1004 => ?_)
  have hag := hag.moved (hm1004.castL (by kernel_rfl))
  have hrow := hrow.moved (hm1004.castL (by kernel_rfl))
  have hwas := hwas.moved (hm1004.castL (by kernel_rfl))
  have hs := hs.moved (hm1004.castL (by kernel_rfl))
  
  refine sim_run 2 [] hR1004 (by kernel_rfl) trivial (fun ρ1100 w1100 hm1100 hR1100 => ?_)
  have hag := hag.moved hm1100
  have hrow := hrow.moved hm1100
  have hwas := hwas.moved hm1100
  have hs := hs.moved hm1100
  refine sim_call 19 [.ptr 0 0, .v (Value.slice A2 k2 c2)] (by kernel_rfl) ?_
  have ez0_1101 := (hag.at_ 0 (by omega)).trans e0
  simp only [denL, LV.den, Nm.at_, ez0_1101, Nat.add_zero]
  refine Calls.mono (try_any (⟨b, pb, pg, Ap, cp, L, cl⟩) (u) (ls) (A2) (k2) (c2) (w0.heap.size) (m) _ (hs.is) (hGI) ((hml.rd.keeps ((by assumption : Rel _ _ _ _ _)).keeps (Nat.le_refl _) (by simp))) (((by assumption : Rel _ _ _ _ _)).keeps.size) ((by omega))) ?_
  rintro e1101 w1101 ⟨rfl, hb1101⟩
  have hR1101 := hR1100.below hb1101
  have hrow := hrow.below hb1101
  have hwas := hwas.below hb1101
  have hs := hs.below hb1101
  refine Back.of (LI (tryM u ls m)) hR1101 rfl ?_
  refine sim_run 4 [] (hR1101.cast (by kernel_rfl)) (by kernel_rfl) trivial (fun ρ1102 w1102 hm1102 hR1102 => ?_)
  have hag := hag.moved (hm1102.castL (by kernel_rfl))
  have hrow := hrow.moved (hm1102.castL (by kernel_rfl))
  have hwas := hwas.moved (hm1102.castL (by kernel_rfl))
  have hs := hs.moved (hm1102.castL (by kernel_rfl))
  
  refine sim_run 1 [] hR1102 (by kernel_rfl) trivial (fun ρ1200 w1200 hm1200 hR1200 => ?_)
  have hag := hag.moved hm1200
  have hrow := hrow.moved hm1200
  have hwas := hwas.moved hm1200
  have hs := hs.moved hm1200
  refine sim_call 17 [.ptr 0 0] (by kernel_rfl) ?_
  have ez0_1201 := (hag.at_ 0 (by omega)).trans e0
  simp only [denL, LV.den, Nm.at_, ez0_1201, Nat.add_zero]
  refine Calls.mono (links_any (⟨b, pb, pg, Ap, cp, L, cl⟩) _ _ _ (hs.is) (hGI)) ?_
  rintro e1201 w1201 ⟨Am, cm, rfl, ho1201, hb1201⟩
  have hmid := Sta.ownR (hR1200) ho1201
  have hqm := hs.lt
  have hR1201 := (hR1200).below hb1201
  have hrow := hrow.below hb1201
  have hwas := hwas.below hb1201
  have hs := hs.below hb1201
  refine Back.of (.v (.slice Am ls.length cm)) hR1201 rfl ?_
  refine sim_run 6 [] (hR1201.cast (by kernel_rfl)) (by kernel_rfl) trivial (fun ρ1202 w1202 hm1202 hR1202 => ?_)
  have hag := hag.moved (hm1202.castL (by kernel_rfl))
  have hmid := hmid.moved (hm1202.castL (by kernel_rfl))
  have hrow := hrow.moved (hm1202.castL (by kernel_rfl))
  have hwas := hwas.moved (hm1202.castL (by kernel_rfl))
  have hs := hs.moved (hm1202.castL (by kernel_rfl))
  
  refine sim_call 11 [.ptr 0 0, .v (.slice A2 k2 c2)] (by kernel_rfl) ?_
  have ezT := (hag.at_ 0 (by omega)).trans e0
  simp only [denL, LV.den, Nm.at_, ezT, Nat.add_zero]
  have hRT := (by assumption : Rel _ _ _ _ _)
  have a1T := hs.is
  have a2T := hml.rd.keeps hRT.keeps (Nat.le_refl _) (by simp)
  have a3T := hRT.keeps.size
  have a4T := add_at _ u ls A2 k2 c2 w0.heap.size m _ _ _ _ a1T hGI a2T a3T (by omega) (fun a ha hb hq => (hT0 _ hq).elim (by simp) (fun h => by omega)) rfl rfl rfl
  refine Calls.mono a4T ?_
  rintro eT wT ⟨rfl, pg2, Ap2, cp2, L2, cl2, hgT, hkT, hhT⟩
  have hRq := hRT.afterG hs hkT hgT rfl rfl hT0 0 (by kernel_rfl) ezT [0] (by kernel_rfl) (by simp)
  have hwas := hwas.afterAdd hkT hqw
  have hrow := hrow.afterAdd hkT hqo
  have hmid := hmid.afterAdd hkT hqm
  have hs2 := hs.afterG hRT hgT hhT
  have hT2 := hT_new hRT hT0 hhT
  clear hs hT0 a1T a2T a3T a4T hRT hqw hqo hqm
  have hs := hs2
  have hT0 := hT2
  clear hs2 hT2
  have hGI2 := hGI.addM m
  refine Back.of (LI (tryM u ls m)) hRq rfl ?_
  refine sim_run 5 [] (hRq.cast (by kernel_rfl)) (by kernel_rfl) trivial (fun ρ1400 w1400 hm1400 hR1400 => ?_)
  have hag := hag.moved (hm1400.castL (by kernel_rfl))
  have hwas := hwas.moved (hm1400.castL (by kernel_rfl))
  have hrow := hrow.moved (hm1400.castL (by kernel_rfl))
  have hmid := hmid.moved (hm1400.castL (by kernel_rfl))
  have hs := hs.moved (hm1400.castL (by kernel_rfl))
  refine sim_call 17 [.ptr 0 0] (by kernel_rfl) ?_
  have ez0_1401 := (hag.at_ 0 (by omega)).trans e0
  simp only [denL, LV.den, Nm.at_, ez0_1401, Nat.add_zero]
  refine Calls.mono (links_any (⟨b, pb, pg2, Ap2, cp2, L2, cl2⟩) _ _ _ (hs.is) (hGI2)) ?_
  rintro e1401 w1401 ⟨An, cn, rfl, ho1401, hb1401⟩
  have hnow := Sta.ownR (hR1400) ho1401
  have hR1401 := (hR1400).below hb1401
  have hwas := hwas.below hb1401
  have hrow := hrow.below hb1401
  have hmid := hmid.below hb1401
  have hs := hs.below hb1401
  refine Back.of (.v (.slice An (addL u ls m).length cn)) hR1401 rfl ?_
  refine sim_run 1 [] (hR1401.cast (by kernel_rfl)) (by kernel_rfl) trivial (fun ρ1402 w1402 hm1402 hR1402 => ?_)
  have hag := hag.moved (hm1402.castL (by kernel_rfl))
  have hnow := hnow.moved (hm1402.castL (by kernel_rfl))
  have hwas := hwas.moved (hm1402.castL (by kernel_rfl))
  have hrow := hrow.moved (hm1402.castL (by kernel_rfl))
  have hmid := hmid.moved (hm1402.castL (by kernel_rfl))
  have hs := hs.moved (hm1402.castL (by kernel_rfl))
  refine sim_call 16 [.ptr 0 0] (by kernel_rfl) ?_
  have ez0_1403 := (hag.at_ 0 (by omega)).trans e0
  simp only [denL, LV.den, Nm.at_, ez0_1403, Nat.add_zero]
  refine Calls.mono (orderG_any (⟨b, pb, pg2, Ap2, cp2, L2, cl2⟩) _ _ _ (hs.is) (hGI2)) ?_
  rintro e1403 w1403 ⟨La, ca, rfl, hr1403, hb1403⟩
  have hrow2 := Sta.rows (hR1402) hr1403
  have hR1403 := (hR1402).below hb1403
  have hnow := hnow.below hb1403
  have hwas := hwas.below hb1403
  have hrow := hrow.below hb1403
  have hmid := hmid.below hb1403
  have hs := hs.below hb1403
  refine Back.of (.v (.slice La (Uf.orderM (addU u ls m) (addL u ls m)).length ca)) hR1403 rfl ?_
  refine sim_run 6 [] (hR1403.cast (by kernel_rfl)) (by kernel_rfl) trivial (fun ρ1404 w1404 hm1404 hR1404 => ?_)
  have hag := hag.moved (hm1404.castL (by kernel_rfl))
  have hrow2 := hrow2.moved (hm1404.castL (by kernel_rfl))
  have hnow := hnow.moved (hm1404.castL (by kernel_rfl))
  have hwas := hwas.moved (hm1404.castL (by kernel_rfl))
  have hrow := hrow.moved (hm1404.castL (by kernel_rfl))
  have hmid := hmid.moved (hm1404.castL (by kernel_rfl))
  have hs := hs.moved (hm1404.castL (by kernel_rfl))
  
  refine sim_run 4 [] hR1404 (by kernel_rfl) trivial (fun ρ1500 w1500 hm1500 hR1500 => ?_)
  have hag := hag.moved hm1500
  have hrow2 := hrow2.moved hm1500
  have hnow := hnow.moved hm1500
  have hwas := hwas.moved hm1500
  have hrow := hrow.moved hm1500
  have hmid := hmid.moved hm1500
  have hs := hs.moved hm1500
  refine sim_know 74 (tryM u ls m != tryM u ls m) false (by kernel_rfl) (bne_self_eq_false _) ?_
  refine sim_run 2 [] (hR1500.cast (by kernel_rfl)) (by kernel_rfl) trivial (fun ρ1501 w1501 hm1501 hR1501 => ?_)
  have hag := hag.moved (hm1501.castL (by kernel_rfl))
  have hrow2 := hrow2.moved (hm1501.castL (by kernel_rfl))
  have hnow := hnow.moved (hm1501.castL (by kernel_rfl))
  have hwas := hwas.moved (hm1501.castL (by kernel_rfl))
  have hrow := hrow.moved (hm1501.castL (by kernel_rfl))
  have hmid := hmid.moved (hm1501.castL (by kernel_rfl))
  have hs := hs.moved (hm1501.castL (by kernel_rfl))
  refine sim_call 20 [.v (Value.slice Aw ls.length cw), .v (Value.slice Am ls.length cm)] (by kernel_rfl) ?_
  refine Calls.mono (sameLks_eq (Aw) (Am) (ls.length) (cw) (cm) _ _ (ls) _ ((Reads.of_own hwas.is)) ((Reads.of_own hmid.is)) ((Nat.le_refl _)) ((Nat.le_refl _)) (rfl) ((by omega))) ?_
  rintro e1502 w1502 ⟨rfl, hb1502⟩
  have hR1502 := hR1501.below hb1502
  have hrow2 := hrow2.below hb1502
  have hnow := hnow.below hb1502
  have hwas := hwas.below hb1502
  have hrow := hrow.below hb1502
  have hmid := hmid.below hb1502
  have hs := hs.below hb1502
  refine Back.of (LB true) hR1502 rfl ?_
  refine sim_run 8 [] (hR1502.cast (by kernel_rfl)) (by kernel_rfl) trivial (fun ρ1503 w1503 hm1503 hR1503 => ?_)
  have hag := hag.moved (hm1503.castL (by kernel_rfl))
  have hrow2 := hrow2.moved (hm1503.castL (by kernel_rfl))
  have hnow := hnow.moved (hm1503.castL (by kernel_rfl))
  have hwas := hwas.moved (hm1503.castL (by kernel_rfl))
  have hrow := hrow.moved (hm1503.castL (by kernel_rfl))
  have hmid := hmid.moved (hm1503.castL (by kernel_rfl))
  have hs := hs.moved (hm1503.castL (by kernel_rfl))
  
  have hRZ := ((by assumption : Rel _ _ _ _ _)).cast (rs' := [gR ⟨b, pb, pg, Ap, cp, L, cl⟩]) (by kernel_rfl)
  by_cases ht : tryM u ls m = 0
  · have eL : addL u ls m = ls ++ m := by unfold addL; rw [if_pos ht]
    have eV : lkV (addL u ls m) = lkV (ls ++ m) := by rw [eL]
    rw [eV] at hnow
    refine sim_to (regK Try.f5 17) (tmplJ Try.f5.ntmps 0 [(2, .v (.slice A2 k2 c2)), (10, .v (.slice Aw ls.length cw)), (12, LI (tryM u ls m)), (14, LI (tryM u ls m)), (15, .v (.slice An (addL u ls m).length cn))]) [gR ⟨b, pb, pg, Ap, cp, L, cl⟩] (by kernel_rfl) (by kernel_rfl) (by kernel_rfl) (fun d3 => ?_)
    exact tries_ok w0 _ ls m A2 k2 c2 hml hk60 Aw cw An cn _ _ _ _ _ _ _ ht rfl (by rw [eL, List.length_append]) hfew _ _ hRZ (hwas.castR (by kernel_rfl)) (hnow.castR (by kernel_rfl)) d3
  · have eL : addL u ls m = ls := by unfold addL; rw [if_neg ht]
    have eU : addU u ls m = u := by unfold addU; rw [if_neg ht]
    have eV : lkV (addL u ls m) = lkV ls := by rw [eL]
    have eX : (Uf.orderM (addU u ls m) (addL u ls m)).map (Uf.cls (addU u ls m)) = (Uf.orderM u ls).map (Uf.cls u) := by rw [eL, eU]
    have eN : (Uf.orderM (addU u ls m) (addL u ls m)).length = ((Uf.orderM u ls).map (Uf.cls u)).length := by rw [eL, eU, List.length_map]
    rw [eV] at hnow
    rw [eX] at hrow2
    refine sim_to (regK Try.f5 17) (tmplJ Try.f5.ntmps 0 [(10, .v (.slice Aw ls.length cw)), (11, .v (.slice Lo (Uf.orderM u ls).length co)), (12, LI (tryM u ls m)), (14, LI (tryM u ls m)), (15, .v (.slice An (addL u ls m).length cn)), (16, .v (.slice La (Uf.orderM (addU u ls m) (addL u ls m)).length ca))]) [gR ⟨b, pb, pg, Ap, cp, L, cl⟩] (by kernel_rfl) (by kernel_rfl) (by kernel_rfl) (fun d3 => ?_)
    exact tries_no w0 _ _ ht ls ((Uf.orderM u ls).map (Uf.cls u)) Aw cw An cn Lo co La ca _ _ _ _ _ _ _ _ _ _ _ _ rfl (by rw [eL]) (List.length_map _).symm eN hfew (by rw [List.length_map]; exact Nat.le_trans (Uf.order_le u ls) (Nat.le_trans (heads_le u) hGI.le)) (fun xs hx => by
      obtain ⟨h, _, rfl⟩ := List.mem_map.1 hx
      exact Nat.le_trans (cls_le u h) hGI.le) _ _ hRZ (hwas.castR (by kernel_rfl)) (hnow.castR (by kernel_rfl)) (hrow.castR (by kernel_rfl)) (hrow2.castR (by kernel_rfl)) d3
end Go.Proofs.Ytnfgndapalkbcaa
