/-
  LinkNear: the class of one that stands ahead.
-/
import Derived.Test.YtnfgndapalkbcaaLinkNear1
namespace Go.Proofs.Ytnfgndapalkbcaa
open Go Go.RowKit
attribute [local irreducible] run goO leaveK someK nextK nextT nextOT nextOD loopBody loopRest loopK fillJ tmplOf tmplJ mergeT At AtO drawOk ordOf gateOf callC callO topOp topO idxOf appOf storeOf clearOf sliceOf calleeOf calleeO topQ idxQ newRowOf resL stepOp seek
set_option maxRecDepth 100000 in
set_option maxHeartbeats 4000000 in
theorem near_cl {Q : Exit → Act → World → Prop} {R : Ending → World → Prop} [hB : Body Try.prog Q Try.f3 R] {ρ : Nm} {w0 w : World} {q : GrP} {u : List Nat} {ls : List Lk} {x i N k na ca nc cc ga oa Ba Bc : Nat} {Ac : Option Addr} {a c : List Nat} (hR : Rel [] w0 ρ [gR q, ⟨[LI (x : Int)], false⟩] w) (hs : Sta q.has (GrV q u ls) ρ [gR q, ⟨[LI (x : Int)], false⟩] w) (ha : Sta (readS (some ⟨ga, oa, none⟩) Ba) (ReadW Ba 1 (some ⟨ga, oa, none⟩) na (nats a)) ρ [gR q, ⟨[LI (x : Int)], false⟩] w) (hc : Sta (readS Ac Bc) (ReadW Bc 1 Ac nc (nats c)) ρ [gR q, ⟨[LI (x : Int)], false⟩] w) (hna : a.length = na) (hna1 : na ≤ 1000) (hnc : c.length = nc) (hnc1 : nc ≤ 1000) (hk : k < na) (hall : ∀ y ∈ c, y ∈ a) (d : Nat → Value)
    (hfin : ∀ (c' : Cfg) (ρ' : Nm) (w' : World), c'.k = [] → mergeT (tmplJ Try.f3.ntmps 0 [(0, LI (N : Int)), (5, .ptr 0 0), (8, LI (i : Int)), (9, .v (.slice (some ⟨ga, oa, none⟩) na ca)), (10, LI ((k : Int) + 1))]) c'.tmps = c'.tmps → (tmplJ Try.f3.ntmps 0 [(0, LI (N : Int)), (5, .ptr 0 0), (8, LI (i : Int)), (9, .v (.slice (some ⟨ga, oa, none⟩) na ca)), (10, LI ((k : Int) + 1))]).length = c'.tmps.length → Ag 1 ρ ρ' c'.rs → Rel [] w0 ρ' c'.rs w' → c'.rs.take 1 = [gR q] → Sta q.has (GrV q u ls) ρ' c'.rs w' → Sta (readS (some ⟨ga, oa, none⟩) Ba) (ReadW Ba 1 (some ⟨ga, oa, none⟩) na (nats a)) ρ' c'.rs w' → At Try.prog Q c' ρ' w') :
    At Try.prog Q ⟨regK Try.f3 26, fillJ (tmplJ Try.f3.ntmps 0 [(0, LI (N : Int)), (5, .ptr 0 0), (8, LI (i : Int)), (9, .v (.slice (some ⟨ga, oa, none⟩) na ca)), (10, LI (k : Int)), (14, .v (.slice Ac nc cc))]) d 0, [gR q, ⟨[LI (x : Int)], false⟩]⟩ ρ w := by
  have hag2 := hR.ag_ 2 (by kernel_rfl)
  have hag1 := hR.ag_ 1 (by kernel_rfl)
  refine sim_run 3 [] (hR.cast (by kernel_rfl)) (by kernel_rfl) trivial (fun ρ1000 w1000 hm1000 hR1000 => ?_)
  have hs := hs.moved (hm1000.castL (by kernel_rfl))
  have ha := ha.moved (hm1000.castL (by kernel_rfl))
  have hc := hc.moved (hm1000.castL (by kernel_rfl))
  have hag2 := hag2.moved (hm1000.castL (by kernel_rfl))
  have hag1 := hag1.moved (hm1000.castL (by kernel_rfl))
  
  refine sim_loop (ι := Nat) (T := []) (w0 := w0) 0 [0, 5, 8, 9, 10, 14] (fun j => [(15, LI j)]) (fun _ => [gR q, ⟨[LI (x : Int)], false⟩]) (fun j w1 => j ≤ nc ∧ Sta q.has (GrV q u ls) ρ1000 [gR q, ⟨[LI (x : Int)], false⟩] w1 ∧ Sta (readS (some ⟨ga, oa, none⟩) Ba) (ReadW Ba 1 (some ⟨ga, oa, none⟩) na (nats a)) ρ1000 [gR q, ⟨[LI (x : Int)], false⟩] w1 ∧ Sta (readS Ac Bc) (ReadW Bc 1 Ac nc (nats c)) ρ1000 [gR q, ⟨[LI (x : Int)], false⟩] w1) (fun j => nc - j) (by kernel_rfl) (by kernel_rfl) ((by assumption : Rel _ _ _ _ _).cast (by kernel_rfl)) ⟨Nat.zero_le _, hs.castR (by kernel_rfl), ha.castR (by kernel_rfl), hc.castR (by kernel_rfl)⟩ ?_
  have hagb := hag1.ag
  iterate 8 (try clear hs)
  iterate 8 (try clear ha)
  iterate 8 (try clear hc)
  iterate 8 (try clear hag1)
  iterate 8 (try clear hag2)
  rintro j d2 w2 hR2 ⟨hi, hs, ha, hc⟩
  have hag := hR2.ag_ 2 (by kernel_rfl)
  by_cases hlt : j < nc
  · obtain ⟨y, hp⟩ : ∃ y, c[j]? = some y := ⟨_, List.getElem?_eq_getElem (by omega)⟩
    refine sim_seeNat j 2 (by kernel_rfl) hp hc hR2 (by kernel_rfl) (fun g3 o3 ρE eA hgE hmE eE hRE => ?_)
    subst eA
    have hs := hs.moved hmE
    have ha := ha.moved hmE
    have hc := hc.moved hmE
    have hag := hag.moved hmE
    have hag3 := hRE.ag_ 3 (by kernel_rfl)
    refine sim_run 8 [] (hRE.cast (by kernel_rfl)) (by kernel_rfl) trivial (fun ρ1100 w1100 hm1100 hR1100 => ?_)
    have hs := hs.moved (hm1100.castL (by kernel_rfl))
    have ha := ha.moved (hm1100.castL (by kernel_rfl))
    have hc := hc.moved (hm1100.castL (by kernel_rfl))
    have hag := hag.moved (hm1100.castL (by kernel_rfl))
    have hag3 := hag3.moved (hm1100.castL (by kernel_rfl))
    refine sim_know 128 (decide ((↑j : Int) < (↑nc : Int))) true (by kernel_rfl) (decide_eq_true (by omega)) ?_
    refine sim_run 6 [] (hR1100.cast (by kernel_rfl)) (by kernel_rfl) trivial (fun ρ1101 w1101 hm1101 hR1101 => ?_)
    have hs := hs.moved (hm1101.castL (by kernel_rfl))
    have ha := ha.moved (hm1101.castL (by kernel_rfl))
    have hc := hc.moved (hm1101.castL (by kernel_rfl))
    have hag := hag.moved (hm1101.castL (by kernel_rfl))
    have hag3 := hag3.moved (hm1101.castL (by kernel_rfl))
    
    refine sim_to (regK Try.f3 29) (tmplJ Try.f3.ntmps 0 [(0, LI (N : Int)), (5, .ptr 0 0), (8, LI (i : Int)), (9, .v (.slice (some ⟨ga, oa, none⟩) na ca)), (10, LI (k : Int)), (14, .v (.slice (some ⟨g3, o3, none⟩) nc cc)), (15, LI (j : Int))]) [gR q, ⟨[LI (x : Int)], false⟩, ⟨[LI (y : Int)], false⟩] (by kernel_rfl) (by kernel_rfl) (by kernel_rfl) (fun d6 => ?_)
    refine near_in ((by assumption : Rel _ _ _ _ _).cast (by kernel_rfl)) (hs.castR (by kernel_rfl)) (ha.castR (by kernel_rfl)) (hc.castR (by kernel_rfl)) ((hag3.at_ 2 (by omega)).trans eE) hlt hna hna1 hnc1 (hall y (List.mem_of_getElem? hp)) d6 (fun c' ρ' w' hk' hm' hl' hag' hR' htk hs' ha' hc' => ?_)
    have hag7 : Ag 2 ρ1000 ρ' c'.rs := ⟨hag.ag.trans hag'.ag (by omega), hag'.le⟩
    exact sim_again (j + 1) hk' (by show nc - (j + 1) < nc - j; omega) ((congrArg (mergeT · c'.tmps) (by kernel_rfl)).trans hm') ((congrArg List.length (by kernel_rfl)).trans hl') (by kernel_rfl) hag7.ag hR' htk (by kernel_rfl) ⟨hlt, hs'.cut hag7 rfl htk, ha'.cut hag7 rfl htk, hc'.cut hag7 rfl htk⟩
  · have hag9 := hR2.ag_ 1 (by kernel_rfl)
    refine sim_run 8 [] (hR2.cast (by kernel_rfl)) (by kernel_rfl) trivial (fun ρ1200 w1200 hm1200 hR1200 => ?_)
    have hs := hs.moved (hm1200.castL (by kernel_rfl))
    have ha := ha.moved (hm1200.castL (by kernel_rfl))
    have hc := hc.moved (hm1200.castL (by kernel_rfl))
    have hag := hag.moved (hm1200.castL (by kernel_rfl))
    have hag9 := hag9.moved (hm1200.castL (by kernel_rfl))
    refine sim_know 128 (decide ((↑j : Int) < (↑nc : Int))) false (by kernel_rfl) (decide_eq_false (by omega)) ?_
    refine sim_run 1 [] (hR1200.cast (by kernel_rfl)) (by kernel_rfl) trivial (fun ρ1201 w1201 hm1201 hR1201 => ?_)
    have hs := hs.moved (hm1201.castL (by kernel_rfl))
    have ha := ha.moved (hm1201.castL (by kernel_rfl))
    have hc := hc.moved (hm1201.castL (by kernel_rfl))
    have hag := hag.moved (hm1201.castL (by kernel_rfl))
    have hag9 := hag9.moved (hm1201.castL (by kernel_rfl))
    refine sim_leave (by kernel_rfl) ?_
    refine sim_run 6 [⟨16, 1, LI (IntKind.i64.wrap ((↑k : Int) + 1)), LI ((↑k : Int) + 1)⟩] (hR1201.cast (by kernel_rfl)) (by kernel_rfl) ⟨eqi (IntWalk.i64_in _ (by omega)), trivial⟩ (fun ρ1202 w1202 hm1202 hR1202 => ?_)
    have hs := hs.moved (hm1202.castL (by kernel_rfl))
    have ha := ha.moved (hm1202.castL (by kernel_rfl))
    have hc := hc.moved (hm1202.castL (by kernel_rfl))
    have hag := hag.moved (hm1202.castL (by kernel_rfl))
    have hag9 := hag9.moved (hm1202.castL (by kernel_rfl))
    
    exact hfin _ _ _ (by kernel_rfl) (by kernel_rfl) (by kernel_rfl) ⟨hagb.trans hag9.ag (by omega), hag9.le⟩ (by assumption : Rel _ _ _ _ _) (by kernel_rfl) hs ha
end Go.Proofs.Ytnfgndapalkbcaa
