/-
  LinkOrders: all rows of the order.
-/
import Derived.Test.YtnfgndapalkbcaaLinkOrders6
namespace Go.Proofs.Ytnfgndapalkbcaa
open Go Go.RowKit
theorem cls_leO (u : List Nat) (h : Nat) : (Uf.cls u h).length ≤ u.length := by
  unfold Uf.cls
  exact Nat.le_trans (List.length_filter_le _ _) (by rw [List.length_range']; exact Nat.le_refl _)
theorem heads_leO (u : List Nat) : (Uf.heads u).length ≤ u.length := by rw [← Uf.classes_length]; exact classes_le u
attribute [local irreducible] run goO leaveK someK nextK nextT nextOT nextOD loopBody loopRest loopK fillJ tmplOf tmplJ mergeT At AtO drawOk ordOf gateOf callC callO topOp topO idxOf appOf storeOf clearOf sliceOf calleeOf calleeO topQ idxQ newRowOf resL stepOp seek
set_option maxRecDepth 100000 in
set_option maxHeartbeats 4000000 in
theorem ord_rows (w0 : World) (q q2 : GrP) (u u2 : List Nat) (ls ls2 : List Lk) (ok : Bool) (Lo : Option Addr) (co m b3 B3 N np cp bp gp : Nat) (pl : List Int) (hm : m = ((Uf.orderM u ls).map (Uf.cls u)).length) (hGI : GInv u ls) (hGI2 : GInv u2 ls2) (hok : ok = true → (Uf.orderM u2 ls2).map (Uf.cls u2) = (Uf.orderM u ls).map (Uf.cls u)) (hul : u.length = N) (hnp : np = N + 1) (hq1 : ∀ x, q.has x → x < bp) (hq2 : ∀ x, q2.has x → x < bp) (hB3 : B3 ≤ bp) (hw0 : w0.heap.size ≤ bp) (w : World) (ρ : Nm) (hR : Rel [] w0 ρ [gR q, gR q2] w) (hs : Sta q.has (GrV q u ls) ρ [gR q, gR q2] w) (hs2 : Sta q2.has (GrV q2 u2 ls2) ρ [gR q, gR q2] w) (hrow : Sta (btw b3 B3) (RowW B3 b3 Lo ((Uf.orderM u ls).map (Uf.cls u))) ρ [gR q, gR q2] w) (hpl : Own ρ [gR q, gR q2] w bp 3 1 (.slice (some ⟨gp, 0, none⟩) np cp) np (ints pl)) (e0 : ρ 0 = (q.b, 0)) (e1 : ρ 1 = (q2.b, 0)) (hPl : PlI u (Uf.orderM u ls) N 0 0 pl) (d : Nat → Value) :
    At Try.prog (bodyPost Try.prog Try.f4 (okO w0)) ⟨regK Try.f4 25, fillJ (tmplJ Try.f4.ntmps 0 [(0, LI (N : Int)), (5, .ptr 0 0), (7, .ptr 1 0), (9, LB ok), (13, .v (.slice Lo m co)), (14, .v (.slice (some ⟨gp, 0, none⟩) np cp))]) d 0, [gR q, gR q2]⟩ ρ w := by
  have hN : N ≤ 1000 := hul ▸ hGI.le
  have hnd := (Uf.order_inv u ls).nodup
  have hol : (Uf.orderM u ls).length ≤ 1000 := Nat.le_trans (Uf.order_le u ls) (Nat.le_trans (heads_leO u) hGI.le)
  have hmo : m = (Uf.orderM u ls).length := by rw [hm, List.length_map]
  have hall : ∀ j, 1 ≤ j → j ≤ N → Uf.hd u j ∈ Uf.orderM u ls := fun j h1 h2 => Uf.full_mem hGI.full (hd_heads hGI.good h1 (by omega))
  have hag := hR.ag_ 2 (by kernel_rfl)
  refine sim_run 3 [] (hR.cast (by kernel_rfl)) (by kernel_rfl) trivial (fun ρ7000 w7000 hm7000 hR7000 => ?_)
  have hs := hs.moved (hm7000.castL (by kernel_rfl))
  have hs2 := hs2.moved (hm7000.castL (by kernel_rfl))
  have hrow := hrow.moved (hm7000.castL (by kernel_rfl))
  have hpl := hpl.moved (hm7000.castL (by kernel_rfl))
  have hag := hag.moved (hm7000.castL (by kernel_rfl))
  
  have e0 := (hag.at_ 0 (by omega)).trans e0
  have e1 := (hag.at_ 1 (by omega)).trans e1
  refine sim_loop (ι := Nat × List Int) (T := []) (w0 := w0) (0, pl) [0, 5, 7, 9, 13, 14] (fun s => [(16, LI s.1)]) (fun _ => [gR q, gR q2]) (fun s w1 => s.1 ≤ m ∧ PlI u (Uf.orderM u ls) N s.1 0 s.2 ∧ Sta q.has (GrV q u ls) ρ7000 [gR q, gR q2] w1 ∧ Sta q2.has (GrV q2 u2 ls2) ρ7000 [gR q, gR q2] w1 ∧ Sta (btw b3 B3) (RowW B3 b3 Lo ((Uf.orderM u ls).map (Uf.cls u))) ρ7000 [gR q, gR q2] w1 ∧ Own ρ7000 [gR q, gR q2] w1 bp 3 1 (.slice (some ⟨gp, 0, none⟩) np cp) np (ints s.2)) (fun s => m - s.1) (by kernel_rfl) (by kernel_rfl) ((by assumption : Rel _ _ _ _ _).cast (by kernel_rfl)) ⟨Nat.zero_le _, hPl, hs.castR (by kernel_rfl), hs2.castR (by kernel_rfl), hrow.castR (by kernel_rfl), hpl.castR (by kernel_rfl)⟩ ?_
  clear hPl
  iterate 8 (try clear hs)
  iterate 8 (try clear hs2)
  iterate 8 (try clear hrow)
  iterate 8 (try clear hpl)
  iterate 8 (try clear hag)
  rintro ⟨i, pl1⟩ d2 w2 hR2 ⟨hi, hPl, hs, hs2, hrow, hpl⟩
  dsimp only at hi hPl hs hs2 hrow hpl
  have hag := hR2.ag_ 2 (by kernel_rfl)
  by_cases hlt : i < m
  · obtain ⟨h0, ho⟩ : ∃ h, (Uf.orderM u ls)[i]? = some h := ⟨_, List.getElem?_eq_getElem (by omega)⟩
    have hcl := cls_leO u h0
    refine sim_seeRow i 2 (by kernel_rfl) (xs := Uf.cls u h0) (by rw [List.getElem?_map, ho]; rfl) hrow hR2 (by kernel_rfl) (fun ga oa Ac cc ρE eA hgb hrd hcc hcm hAc hmE eE hRE => ?_)
    subst eA
    have hs := hs.moved hmE
    have hs2 := hs2.moved hmE
    have hrow := hrow.moved hmE
    have hrd := hrd.moved hmE
    have hpl := hpl.moved hmE
    have hag := hag.moved hmE
    have hag3 := hRE.ag_ 3 (by kernel_rfl)
    refine sim_run 8 [] (hRE.cast (by kernel_rfl)) (by kernel_rfl) trivial (fun ρ7100 w7100 hm7100 hR7100 => ?_)
    have hs := hs.moved (hm7100.castL (by kernel_rfl))
    have hs2 := hs2.moved (hm7100.castL (by kernel_rfl))
    have hrow := hrow.moved (hm7100.castL (by kernel_rfl))
    have hrd := hrd.moved (hm7100.castL (by kernel_rfl))
    have hpl := hpl.moved (hm7100.castL (by kernel_rfl))
    have hag := hag.moved (hm7100.castL (by kernel_rfl))
    have hag3 := hag3.moved (hm7100.castL (by kernel_rfl))
    refine sim_know 106 (decide ((↑(i, pl1).fst : Int) < (↑m : Int))) true (by kernel_rfl) (decide_eq_true (by omega)) ?_
    refine sim_run 6 [] (hR7100.cast (by kernel_rfl)) (by kernel_rfl) trivial (fun ρ7101 w7101 hm7101 hR7101 => ?_)
    have hs := hs.moved (hm7101.castL (by kernel_rfl))
    have hs2 := hs2.moved (hm7101.castL (by kernel_rfl))
    have hrow := hrow.moved (hm7101.castL (by kernel_rfl))
    have hrd := hrd.moved (hm7101.castL (by kernel_rfl))
    have hpl := hpl.moved (hm7101.castL (by kernel_rfl))
    have hag := hag.moved (hm7101.castL (by kernel_rfl))
    have hag3 := hag3.moved (hm7101.castL (by kernel_rfl))
    
    refine sim_to (regK Try.f4 28) (tmplJ Try.f4.ntmps 0 [(0, LI (N : Int)), (5, .ptr 0 0), (7, .ptr 1 0), (9, LB ok), (13, .v (.slice (some ⟨ga, oa, none⟩) m co)), (14, .v (.slice (some ⟨gp, 0, none⟩) np cp)), (16, LI (i : Int))]) [gR q, gR q2, ⟨[.v (.slice Ac (Uf.cls u h0).length cc)], false⟩] (by kernel_rfl) (by kernel_rfl) (by kernel_rfl) (fun d3 => ?_)
    refine ord_row (h0 := h0) (ord := Uf.orderM u ls) (xs := Uf.cls u h0) ((by assumption : Rel _ _ _ _ _).cast (by kernel_rfl)) (hs.castR (by kernel_rfl)) (hs2.castR (by kernel_rfl)) (hrow.castR (by kernel_rfl)) (hrd.castR (by kernel_rfl)) (hpl.castR (by kernel_rfl)) hGI hul hN hnp hlt (by omega) hnd ho rfl rfl (by omega) hq1 hq2 hB3 hw0 ((hag.at_ 0 (by omega)).trans e0) ((hag.at_ 1 (by omega)).trans e1) hgb ((hag3.at_ 2 (by omega)).trans eE) hPl d3 (fun pl' c' ρ' w' hPl' hk' hm' hl' hag' hR' htk hs' hs2' hrow' hpl' => ?_)
    have hag7 : Ag 2 ρ7000 ρ' c'.rs := ⟨hag.ag.trans hag'.ag (by omega), hag'.le⟩
    exact sim_again (i + 1, pl') hk' (by show m - (i + 1) < m - i; omega) ((congrArg (mergeT · c'.tmps) (by kernel_rfl)).trans hm') ((congrArg List.length (by kernel_rfl)).trans hl') (by kernel_rfl) hag7.ag hR' htk (by kernel_rfl) ⟨hlt, hPl', hs'.cut hag7 rfl htk, hs2'.cut hag7 rfl htk, hrow'.cut hag7 rfl htk, hpl'.cut hag7 rfl htk⟩
  · refine sim_run 8 [] (hR2.cast (by kernel_rfl)) (by kernel_rfl) trivial (fun ρ7200 w7200 hm7200 hR7200 => ?_)
    have hs := hs.moved (hm7200.castL (by kernel_rfl))
    have hs2 := hs2.moved (hm7200.castL (by kernel_rfl))
    have hrow := hrow.moved (hm7200.castL (by kernel_rfl))
    have hpl := hpl.moved (hm7200.castL (by kernel_rfl))
    have hag := hag.moved (hm7200.castL (by kernel_rfl))
    refine sim_know 106 (decide ((↑(i, pl1).fst : Int) < (↑m : Int))) false (by kernel_rfl) (decide_eq_false (by omega)) ?_
    refine sim_run 1 [] (hR7200.cast (by kernel_rfl)) (by kernel_rfl) trivial (fun ρ7201 w7201 hm7201 hR7201 => ?_)
    have hs := hs.moved (hm7201.castL (by kernel_rfl))
    have hs2 := hs2.moved (hm7201.castL (by kernel_rfl))
    have hrow := hrow.moved (hm7201.castL (by kernel_rfl))
    have hpl := hpl.moved (hm7201.castL (by kernel_rfl))
    have hag := hag.moved (hm7201.castL (by kernel_rfl))
    refine sim_leave (by kernel_rfl) ?_
    refine sim_run 2 [] (hR7201.cast (by kernel_rfl)) (by kernel_rfl) trivial (fun ρ7202 w7202 hm7202 hR7202 => ?_)
    have hs := hs.moved (hm7202.castL (by kernel_rfl))
    have hs2 := hs2.moved (hm7202.castL (by kernel_rfl))
    have hrow := hrow.moved (hm7202.castL (by kernel_rfl))
    have hpl := hpl.moved (hm7202.castL (by kernel_rfl))
    have hag := hag.moved (hm7202.castL (by kernel_rfl))
    
    refine sim_to (regK Try.f4 34) (tmplJ Try.f4.ntmps 0 [(0, LI (N : Int)), (5, .ptr 0 0), (7, .ptr 1 0), (9, LB ok), (13, .v (.slice Lo m co)), (14, .v (.slice (some ⟨gp, 0, none⟩) np cp))]) [gR q, gR q2] (by kernel_rfl) (by kernel_rfl) (by kernel_rfl) (fun d6 => ?_)
    exact ord_links w0 q q2 u2 ls2 ok _ Lo co m b3 B3 hm (by rw [List.length_map]; exact hol) (fun xs hx => by
      obtain ⟨h, _, rfl⟩ := List.mem_map.1 hx
      exact Nat.le_trans (cls_leO u h) hGI.le) hGI2 hok N np cp bp gp pl1 hN hnp u ls hGI hul (hPl.end_ (by omega) hall) _ _ ((by assumption : Rel _ _ _ _ _).cast (by kernel_rfl)) (hs.castR (by kernel_rfl)) (hs2.castR (by kernel_rfl)) (hrow.castR (by kernel_rfl)) (hpl.castR (by kernel_rfl)) ((hag.at_ 0 (by omega)).trans e0) ((hag.at_ 1 (by omega)).trans e1) d6
end Go.Proofs.Ytnfgndapalkbcaa
