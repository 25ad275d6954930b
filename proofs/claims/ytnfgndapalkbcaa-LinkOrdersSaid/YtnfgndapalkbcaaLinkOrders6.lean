/-
  LinkOrders: one row of the order.
-/
import Derived.Test.YtnfgndapalkbcaaLinkOrders5
import Derived.Test.YtnfgndapalkbcaaLinkOrders4
namespace Go.Proofs.Ytnfgndapalkbcaa
open Go Go.RowKit
theorem same_cls {u : List Nat} {x y h : Nat} (hx : 1 ≤ x ∧ x ≤ u.length) (hy : 1 ≤ y ∧ y ≤ u.length) (h1 : Uf.hd u x = h) (h2 : Uf.hd u y = h) : sameI u [(y : Int), (x : Int)] = true := by
  unfold sameI
  have e1 := headI_nat hx
  have e2 := headI_nat hy
  have e3 := nat_inU hx
  have e4 := nat_inU hy
  rw [h1] at e1
  rw [h2] at e2
  simp [e1, e2, e3, e4]
attribute [local irreducible] run goO leaveK someK nextK nextT nextOT nextOD loopBody loopRest loopK fillJ tmplOf tmplJ mergeT At AtO drawOk ordOf gateOf callC callO topOp topO idxOf appOf storeOf clearOf sliceOf calleeOf calleeO topQ idxQ newRowOf resL stepOp seek
set_option maxRecDepth 100000 in
set_option maxHeartbeats 4000000 in
theorem ord_row {Q : Exit → Act → World → Prop} {R : Ending → World → Prop} [hB : Body Try.prog Q Try.f4 R] {ρ : Nm} {w0 w : World} {q q2 : GrP} {u u2 : List Nat} {ls ls2 : List Lk} {N np cp bp gp i m n ga oa co cc b3 B3 h0 : Nat} {Ac : Option Addr} {ok : Bool} {xss : List (List Nat)} {xs ord : List Nat} {pl : List Int} (hR : Rel [] w0 ρ [gR q, gR q2, ⟨[.v (.slice Ac n cc)], false⟩] w) (hs : Sta q.has (GrV q u ls) ρ [gR q, gR q2, ⟨[.v (.slice Ac n cc)], false⟩] w) (hs2 : Sta q2.has (GrV q2 u2 ls2) ρ [gR q, gR q2, ⟨[.v (.slice Ac n cc)], false⟩] w) (hrow : Sta (btw b3 B3) (RowW B3 b3 (some ⟨ga, oa, none⟩) xss) ρ [gR q, gR q2, ⟨[.v (.slice Ac n cc)], false⟩] w) (hrd : Sta (readS Ac B3) (ReadW B3 1 Ac n (nats xs)) ρ [gR q, gR q2, ⟨[.v (.slice Ac n cc)], false⟩] w) (hpl : Own ρ [gR q, gR q2, ⟨[.v (.slice Ac n cc)], false⟩] w bp 3 1 (.slice (some ⟨gp, 0, none⟩) np cp) np (ints pl)) (hGI : GInv u ls) (hul : u.length = N) (hN : N ≤ 1000) (hnp : np = N + 1) (hi : i < m) (hm1 : m ≤ 1000) (hnd : ord.Nodup) (ho : ord[i]? = some h0) (hxs : Uf.cls u h0 = xs) (hnx : xs.length = n) (hn1 : n ≤ 1000) (hq1 : ∀ x, q.has x → x < bp) (hq2 : ∀ x, q2.has x → x < bp) (hB3 : B3 ≤ bp) (hw0 : w0.heap.size ≤ bp) (e0 : ρ 0 = (q.b, 0)) (e1 : ρ 1 = (q2.b, 0)) (hgb : btw b3 B3 ga) (e2 : ρ 2 = (ga, oa + i)) (hPl : PlI u ord N i 0 pl) (d : Nat → Value)
    (hfin : ∀ (pl' : List Int) (c' : Cfg) (ρ' : Nm) (w' : World), PlI u ord N (i + 1) 0 pl' → c'.k = [] → mergeT (tmplJ Try.f4.ntmps 0 [(0, LI (N : Int)), (5, .ptr 0 0), (7, .ptr 1 0), (9, LB ok), (13, .v (.slice (some ⟨ga, oa, none⟩) m co)), (14, .v (.slice (some ⟨gp, 0, none⟩) np cp)), (16, LI ((i : Int) + 1))]) c'.tmps = c'.tmps → (tmplJ Try.f4.ntmps 0 [(0, LI (N : Int)), (5, .ptr 0 0), (7, .ptr 1 0), (9, LB ok), (13, .v (.slice (some ⟨ga, oa, none⟩) m co)), (14, .v (.slice (some ⟨gp, 0, none⟩) np cp)), (16, LI ((i : Int) + 1))]).length = c'.tmps.length → Ag 2 ρ ρ' c'.rs → Rel [] w0 ρ' c'.rs w' → c'.rs.take 2 = [gR q, gR q2] → Sta q.has (GrV q u ls) ρ' c'.rs w' → Sta q2.has (GrV q2 u2 ls2) ρ' c'.rs w' → Sta (btw b3 B3) (RowW B3 b3 (some ⟨ga, oa, none⟩) xss) ρ' c'.rs w' → Own ρ' c'.rs w' bp 3 1 (.slice (some ⟨gp, 0, none⟩) np cp) np (ints pl') → At Try.prog Q c' ρ' w') :
    At Try.prog Q ⟨regK Try.f4 28, fillJ (tmplJ Try.f4.ntmps 0 [(0, LI (N : Int)), (5, .ptr 0 0), (7, .ptr 1 0), (9, LB ok), (13, .v (.slice (some ⟨ga, oa, none⟩) m co)), (14, .v (.slice (some ⟨gp, 0, none⟩) np cp)), (16, LI (i : Int))]) d 0, [gR q, gR q2, ⟨[.v (.slice Ac n cc)], false⟩]⟩ ρ w := by
  have hag := hR.ag_ 3 (by kernel_rfl)
  have hag2 := hR.ag_ 2 (by kernel_rfl)
  refine sim_run 3 [] (hR.cast (by kernel_rfl)) (by kernel_rfl) trivial (fun ρ6000 w6000 hm6000 hR6000 => ?_)
  have hs := hs.moved (hm6000.castL (by kernel_rfl))
  have hs2 := hs2.moved (hm6000.castL (by kernel_rfl))
  have hrow := hrow.moved (hm6000.castL (by kernel_rfl))
  have hrd := hrd.moved (hm6000.castL (by kernel_rfl))
  have hpl := hpl.moved (hm6000.castL (by kernel_rfl))
  have hag := hag.moved (hm6000.castL (by kernel_rfl))
  have hag2 := hag2.moved (hm6000.castL (by kernel_rfl))
  
  have hagb := hag2.ag
  have e0 := (hag.at_ 0 (by omega)).trans e0
  have e1 := (hag.at_ 1 (by omega)).trans e1
  have e2 := (hag.at_ 2 (by omega)).trans e2
  refine sim_loop (ι := Nat × List Int) (T := []) (w0 := w0) (0, pl) [0, 5, 7, 9, 13, 14, 16] (fun s => [(17, LI s.1)]) (fun _ => [gR q, gR q2, ⟨[.v (.slice Ac n cc)], false⟩]) (fun s w1 => s.1 ≤ n ∧ PlI u ord N i s.1 s.2 ∧ Sta q.has (GrV q u ls) ρ6000 [gR q, gR q2, ⟨[.v (.slice Ac n cc)], false⟩] w1 ∧ Sta q2.has (GrV q2 u2 ls2) ρ6000 [gR q, gR q2, ⟨[.v (.slice Ac n cc)], false⟩] w1 ∧ Sta (btw b3 B3) (RowW B3 b3 (some ⟨ga, oa, none⟩) xss) ρ6000 [gR q, gR q2, ⟨[.v (.slice Ac n cc)], false⟩] w1 ∧ Sta (readS Ac B3) (ReadW B3 1 Ac n (nats xs)) ρ6000 [gR q, gR q2, ⟨[.v (.slice Ac n cc)], false⟩] w1 ∧ Own ρ6000 [gR q, gR q2, ⟨[.v (.slice Ac n cc)], false⟩] w1 bp 3 1 (.slice (some ⟨gp, 0, none⟩) np cp) np (ints s.2)) (fun s => n - s.1) (by kernel_rfl) (by kernel_rfl) ((by assumption : Rel _ _ _ _ _).cast (by kernel_rfl)) ⟨Nat.zero_le _, hPl, hs.castR (by kernel_rfl), hs2.castR (by kernel_rfl), hrow.castR (by kernel_rfl), hrd.castR (by kernel_rfl), hpl.castR (by kernel_rfl)⟩ ?_
  clear hPl
  iterate 8 (try clear hs)
  iterate 8 (try clear hs2)
  iterate 8 (try clear hrow)
  iterate 8 (try clear hrd)
  iterate 8 (try clear hpl)
  iterate 8 (try clear hag)
  iterate 8 (try clear hag2)
  rintro ⟨k, pl1⟩ d2 w2 hR2 ⟨hk, hPl, hs, hs2, hrow, hrd, hpl⟩
  dsimp only at hk hPl hs hs2 hrow hrd hpl
  have hag := hR2.ag_ 3 (by kernel_rfl)
  by_cases hlt : k < n
  · obtain ⟨x, hx⟩ : ∃ x, xs[k]? = some x := ⟨_, List.getElem?_eq_getElem (by omega)⟩
    obtain ⟨y0, hy⟩ : ∃ y, xs[0]? = some y := ⟨_, List.getElem?_eq_getElem (by omega)⟩
    obtain ⟨hold, hxr, hxh⟩ := hPl.old hul hnd ho (by rw [hxs]; exact hx)
    obtain ⟨hyr, hyh⟩ := Uf.mem_cls.1 (by rw [hxs]; exact List.mem_of_getElem? hy : y0 ∈ Uf.cls u h0)
    have hsm := same_cls (by omega) hyr hxh hyh
    have hst := hPl.step hul hnd ho (by rw [hxs]; exact hx)
    refine sim_seeNat k 3 (by kernel_rfl) hx hrd hR2 (by kernel_rfl) (fun gc oc ρE eA hgE hmE eE hRE => ?_)
    subst eA
    have hgc : gc < B3 := by obtain ⟨_, _, _, h9⟩ := hgE; exact h9
    have hs := hs.moved hmE
    have hs2 := hs2.moved hmE
    have hrow := hrow.moved hmE
    have hrd := hrd.moved hmE
    have hpl := hpl.moved hmE
    have hag := hag.moved hmE
    refine sim_seeNat 0 4 (by kernel_rfl) hy hrd hRE (by kernel_rfl) (fun g4 o4 ρF eA hgF hmF eF hRF => ?_)
    injection eA with eA
    injection eA with eg eo
    subst eg eo
    have hs := hs.moved hmF
    have hs2 := hs2.moved hmF
    have hrow := hrow.moved hmF
    have hrd := hrd.moved hmF
    have hpl := hpl.moved hmF
    have hag := hag.moved hmF
    have e3 := (hmF.at_ 3 (by kernel_rfl)).trans eE
    refine sim_seeZ (-1) x 5 (by kernel_rfl) hold hpl (by omega) hRF (by kernel_rfl) (fun ρG hmG eG hRG => ?_)
    have hs := hs.moved hmG
    have hs2 := hs2.moved hmG
    have hrow := hrow.moved hmG
    have hrd := hrd.moved hmG
    have hpl := hpl.moved hmG
    have hag := hag.moved hmG
    have e3 := (hmG.at_ 3 (by kernel_rfl)).trans e3
    have e4 := (hmG.at_ 4 (by kernel_rfl)).trans eF
    have hag6 := hRG.ag_ 6 (by kernel_rfl)
    have e2g : ρG 2 = (ga, oa + i) := (hag.at_ 2 (by omega)).trans e2
    refine sim_run 6 [] (hRG.cast (by kernel_rfl)) (by kernel_rfl) trivial (fun ρ6100 w6100 hm6100 hR6100 => ?_)
    have hs := hs.moved (hm6100.castL (by kernel_rfl))
    have hs2 := hs2.moved (hm6100.castL (by kernel_rfl))
    have hrow := hrow.moved (hm6100.castL (by kernel_rfl))
    have hrd := hrd.moved (hm6100.castL (by kernel_rfl))
    have hpl := hpl.moved (hm6100.castL (by kernel_rfl))
    have hag := hag.moved (hm6100.castL (by kernel_rfl))
    have hag6 := hag6.moved (hm6100.castL (by kernel_rfl))
    refine sim_place (.v (.slice (some ⟨ga, oa, none⟩) m co)) m 1 (i : Int) 2 0 (by kernel_rfl) (by omega) (by omega) rfl (by simp only [Nm.at_, hag6.at_ 2 (by omega), e2g, Nat.add_zero, Int.toNat_natCast, Nat.mul_one]) ?_
    refine sim_run 4 [] (hR6100.cast (by kernel_rfl)) (by kernel_rfl) trivial (fun ρ6102 w6102 hm6102 hR6102 => ?_)
    have hs := hs.moved (hm6102.castL (by kernel_rfl))
    have hs2 := hs2.moved (hm6102.castL (by kernel_rfl))
    have hrow := hrow.moved (hm6102.castL (by kernel_rfl))
    have hrd := hrd.moved (hm6102.castL (by kernel_rfl))
    have hpl := hpl.moved (hm6102.castL (by kernel_rfl))
    have hag := hag.moved (hm6102.castL (by kernel_rfl))
    have hag6 := hag6.moved (hm6102.castL (by kernel_rfl))
    refine sim_know 115 (decide ((↑(k, pl1).fst : Int) < (↑n : Int))) true (by kernel_rfl) (decide_eq_true (by omega)) ?_
    refine sim_run 6 [] (hR6102.cast (by kernel_rfl)) (by kernel_rfl) trivial (fun ρ6103 w6103 hm6103 hR6103 => ?_)
    have hs := hs.moved (hm6103.castL (by kernel_rfl))
    have hs2 := hs2.moved (hm6103.castL (by kernel_rfl))
    have hrow := hrow.moved (hm6103.castL (by kernel_rfl))
    have hrd := hrd.moved (hm6103.castL (by kernel_rfl))
    have hpl := hpl.moved (hm6103.castL (by kernel_rfl))
    have hag := hag.moved (hm6103.castL (by kernel_rfl))
    have hag6 := hag6.moved (hm6103.castL (by kernel_rfl))
    
    refine sim_to (regK Try.f4 31) (tmplJ Try.f4.ntmps 0 [(0, LI (N : Int)), (5, .ptr 0 0), (7, .ptr 1 0), (9, LB ok), (13, .v (.slice (some ⟨ga, oa, none⟩) m co)), (14, .v (.slice (some ⟨gp, 0, none⟩) np cp)), (16, LI (i : Int)), (17, LI (k : Int))]) [gR q, gR q2, ⟨[.v (.slice (some ⟨gc, oc, none⟩) n cc)], false⟩, ⟨[LI (x : Int)], false⟩, ⟨[LI (y0 : Int)], false⟩, ⟨[LI (-1)], false⟩] (by kernel_rfl) (by kernel_rfl) (by kernel_rfl) (fun d3 => ?_)
    have e2 := (hag.at_ 2 (by omega)).trans e2
    refine ord_chk ((by assumption : Rel _ _ _ _ _).cast (by kernel_rfl)) (hs.castR (by kernel_rfl)) (hs2.castR (by kernel_rfl)) (hrow.castR (by kernel_rfl)) (hrd.castR (by kernel_rfl)) (hpl.castR (by kernel_rfl)) hGI hN hnp hi hlt hn1 hxr hsm e2 ((hag6.at_ 3 (by omega)).trans e3) ((hag6.at_ 4 (by omega)).trans e4) ((hag6.at_ 5 (by omega)).trans eG) d3 (fun ρ' w' d' hag' hR' hs hs2 hrow hrd hpl => ?_)
    have f0 := (hag'.ag 0 (by omega)).trans ((hag.at_ 0 (by omega)).trans e0)
    have f1 := (hag'.ag 1 (by omega)).trans ((hag.at_ 1 (by omega)).trans e1)
    have f2 := (hag'.ag 2 (by omega)).trans e2
    have f3 := (hag'.ag 3 (by omega)).trans ((hag6.at_ 3 (by omega)).trans e3)
    have hagA : Agree 3 ρ6000 ρ' := hag.ag.trans hag'.ag (by omega)
    clear hag hag6 e2 e3 e4 eG e2g
    have hz := hR'.ag_ 4 (by kernel_rfl)
    have hR4 := hR'.cut (rs := [gR q, gR q2, ⟨[.v (.slice (some ⟨gc, oc, none⟩) n cc)], false⟩, ⟨[LI (x : Int)], false⟩]) (by kernel_rfl) (fun _ _ => rfl) (by kernel_rfl)
    have hs := hs.cut (rs := [gR q, gR q2, ⟨[.v (.slice (some ⟨gc, oc, none⟩) n cc)], false⟩, ⟨[LI (x : Int)], false⟩]) hz rfl (by kernel_rfl)
    have hs2 := hs2.cut (rs := [gR q, gR q2, ⟨[.v (.slice (some ⟨gc, oc, none⟩) n cc)], false⟩, ⟨[LI (x : Int)], false⟩]) hz rfl (by kernel_rfl)
    have hrow := hrow.cut (rs := [gR q, gR q2, ⟨[.v (.slice (some ⟨gc, oc, none⟩) n cc)], false⟩, ⟨[LI (x : Int)], false⟩]) hz rfl (by kernel_rfl)
    have hrd := hrd.cut (rs := [gR q, gR q2, ⟨[.v (.slice (some ⟨gc, oc, none⟩) n cc)], false⟩, ⟨[LI (x : Int)], false⟩]) hz rfl (by kernel_rfl)
    have hpl := hpl.cut (rs := [gR q, gR q2, ⟨[.v (.slice (some ⟨gc, oc, none⟩) n cc)], false⟩, ⟨[LI (x : Int)], false⟩]) hz rfl (by kernel_rfl)
    refine sim_rs [gR q, gR q2, ⟨[.v (.slice (some ⟨gc, oc, none⟩) n cc)], false⟩, ⟨[LI (x : Int)], false⟩] ?_
    refine sim_open 4 (by kernel_rfl) hR4 gp x [] (by kernel_rfl) (hpl.own.lt gp rfl).2 (fun j v hj => by simp at hj) (fun n r hn hw he => hpl.far gp rfl ⟨n, r, hn, hw, he⟩) (fun ρH hagH eH hRH => ?_)
    have hmH := Moved.ext_ro (rs := [gR q, gR q2, ⟨[.v (.slice (some ⟨gc, oc, none⟩) n cc)], false⟩, ⟨[LI (x : Int)], false⟩]) (w := w') (cells := []) hagH rfl
    have hs := hs.moved hmH
    have hs2 := hs2.moved hmH
    have hrow := hrow.moved hmH
    have hrd := hrd.moved hmH
    have hpl := hpl.moved hmH
    have f0 := (hagH 0 (by omega)).trans f0
    have f1 := (hagH 1 (by omega)).trans f1
    have f2 := (hagH 2 (by omega)).trans f2
    have f3 := (hagH 3 (by omega)).trans f3
    have hag : Ag 3 ρ6000 ρH [gR q, gR q2, ⟨[.v (.slice (some ⟨gc, oc, none⟩) n cc)], false⟩, ⟨[LI (x : Int)], false⟩, ⟨[], false⟩] := ⟨hagA.trans hagH (by omega), by show 3 ≤ 5; decide⟩
    have hag5 := hRH.ag_ 5 (by kernel_rfl)
    refine sim_run 3 [] (hRH.cast (by kernel_rfl)) (by kernel_rfl) trivial (fun ρ6200 w6200 hm6200 hR6200 => ?_)
    have hs := hs.moved (hm6200.castL (by kernel_rfl))
    have hs2 := hs2.moved (hm6200.castL (by kernel_rfl))
    have hrow := hrow.moved (hm6200.castL (by kernel_rfl))
    have hrd := hrd.moved (hm6200.castL (by kernel_rfl))
    have hpl := hpl.moved (hm6200.castL (by kernel_rfl))
    have hag := hag.moved (hm6200.castL (by kernel_rfl))
    have hag5 := hag5.moved (hm6200.castL (by kernel_rfl))
    refine sim_place (.v (.slice (some ⟨ga, oa, none⟩) m co)) m 1 (i : Int) 2 0 (by kernel_rfl) (by omega) (by omega) rfl (by simp only [Nm.at_, hag5.at_ 2 (by omega), f2, Nat.add_zero, Int.toNat_natCast, Nat.mul_one]) ?_
    refine sim_run 2 [] (hR6200.cast (by kernel_rfl)) (by kernel_rfl) trivial (fun ρ6202 w6202 hm6202 hR6202 => ?_)
    have hs := hs.moved (hm6202.castL (by kernel_rfl))
    have hs2 := hs2.moved (hm6202.castL (by kernel_rfl))
    have hrow := hrow.moved (hm6202.castL (by kernel_rfl))
    have hrd := hrd.moved (hm6202.castL (by kernel_rfl))
    have hpl := hpl.moved (hm6202.castL (by kernel_rfl))
    have hag := hag.moved (hm6202.castL (by kernel_rfl))
    have hag5 := hag5.moved (hm6202.castL (by kernel_rfl))
    refine sim_place (.v (.slice (some ⟨gc, oc, none⟩) n cc)) n 1 (k : Int) 3 0 (by kernel_rfl) (by omega) (by omega) rfl (by simp only [Nm.at_, hag5.at_ 3 (by omega), f3, Nat.add_zero, Int.toNat_natCast, Nat.mul_one]) ?_
    refine sim_run 2 [] (hR6202.cast (by kernel_rfl)) (by kernel_rfl) trivial (fun ρ6205 w6205 hm6205 hR6205 => ?_)
    have hs := hs.moved (hm6205.castL (by kernel_rfl))
    have hs2 := hs2.moved (hm6205.castL (by kernel_rfl))
    have hrow := hrow.moved (hm6205.castL (by kernel_rfl))
    have hrd := hrd.moved (hm6205.castL (by kernel_rfl))
    have hpl := hpl.moved (hm6205.castL (by kernel_rfl))
    have hag := hag.moved (hm6205.castL (by kernel_rfl))
    have hag5 := hag5.moved (hm6205.castL (by kernel_rfl))
    refine sim_place (.v (.slice (some ⟨gp, 0, none⟩) np cp)) np 1 (x : Int) 4 0 (by kernel_rfl) (by omega) (by omega) rfl (by simp only [Nm.at_, hag5.at_ 4 (by omega), eH, Nat.add_zero, Nat.zero_add, Int.toNat_natCast, Nat.mul_one]) ?_
    
    refine sim_rs [gR q, gR q2, ⟨[.v (.slice (some ⟨gc, oc, none⟩) n cc)], false⟩, ⟨[LI (x : Int)], false⟩, ⟨[], false⟩] ?_
    have hRS := (by assumption : Rel _ _ _ _ _).cast (rs' := [gR q, gR q2, ⟨[.v (.slice (some ⟨gc, oc, none⟩) n cc)], false⟩, ⟨[LI (x : Int)], false⟩, ⟨[], false⟩]) (by kernel_rfl)
    have f0 := (hag5.at_ 0 (by omega)).trans f0
    have f1 := (hag5.at_ 1 (by omega)).trans f1
    have f2 := (hag5.at_ 2 (by omega)).trans f2
    have f3 := (hag5.at_ 3 (by omega)).trans f3
    have f4 := (hag5.at_ 4 (by omega)).trans eH
    have hgl := (hpl.own.lt gp rfl).1
    refine sim_storeR (a := .ptr 4 0) (z := (i : Int)) (i := x) (by kernel_rfl) hRS hpl.own (by simp only [LV.den, Nm.at_, f4, Nat.add_zero]) (by omega) (by omega) (fun k r hk hne e => by
      match k, hk with
      | 0, _ => rw [f0] at e; have h1 := hq1 q.b (.inl rfl); have e : q.b = gp := e; omega
      | 1, _ => rw [f1] at e; have h1 := hq2 q2.b (.inl rfl); have e : q2.b = gp := e; omega
      | 2, _ => rw [f2] at e; have h1 := hgb.2; have e : ga = gp := e; omega
      | 3, _ => rw [f3] at e; have e : gc = gp := e; omega
      | 4, hk => simp only [List.getElem?_cons_succ, List.getElem?_cons_zero, Option.some.injEq] at hk; subst hk; exact hne rfl
      | k + 5, hk => simp at hk) (fun w5 ho5 hk5 hR5 => ?_)
    have hs := (hs.castR (rs' := [gR q, gR q2, ⟨[.v (.slice (some ⟨gc, oc, none⟩) n cc)], false⟩, ⟨[LI (x : Int)], false⟩, ⟨[], false⟩]) (by kernel_rfl)).kept hk5 (fun y hy e => by have := hq1 y hy; omega)
    have hs2 := (hs2.castR (rs' := [gR q, gR q2, ⟨[.v (.slice (some ⟨gc, oc, none⟩) n cc)], false⟩, ⟨[LI (x : Int)], false⟩, ⟨[], false⟩]) (by kernel_rfl)).kept hk5 (fun y hy e => by have := hq2 y hy; omega)
    have hrow := (hrow.castR (rs' := [gR q, gR q2, ⟨[.v (.slice (some ⟨gc, oc, none⟩) n cc)], false⟩, ⟨[LI (x : Int)], false⟩, ⟨[], false⟩]) (by kernel_rfl)).kept hk5 (fun y hy e => by have := hy.2; omega)
    have hrd := (hrd.castR (rs' := [gR q, gR q2, ⟨[.v (.slice (some ⟨gc, oc, none⟩) n cc)], false⟩, ⟨[LI (x : Int)], false⟩, ⟨[], false⟩]) (by kernel_rfl)).kept hk5 (fun y hy e => by obtain ⟨_, _, _, h9⟩ := hy; omega)
    have hag := Ag.castR hag (rs' := [gR q, gR q2, ⟨[.v (.slice (some ⟨gc, oc, none⟩) n cc)], false⟩, ⟨[LI (x : Int)], false⟩, ⟨[], false⟩]) (by kernel_rfl)
    clear hpl hag5
    have hpl := Own.ro hR5 ho5 (by kernel_rfl)
    refine sim_run 7 [⟨30, 1, LI (IntKind.i64.wrap ((↑k : Int) + 1)), LI ((↑k : Int) + 1)⟩] (hR5.cast (by kernel_rfl)) (by kernel_rfl) ⟨eqi (IntWalk.i64_in _ (by omega)), trivial⟩ (fun ρ6300 w6300 hm6300 hR6300 => ?_)
    have hs := hs.moved (hm6300.castL (by kernel_rfl))
    have hs2 := hs2.moved (hm6300.castL (by kernel_rfl))
    have hrow := hrow.moved (hm6300.castL (by kernel_rfl))
    have hrd := hrd.moved (hm6300.castL (by kernel_rfl))
    have hag := hag.moved (hm6300.castL (by kernel_rfl))
    have hpl := hpl.moved (hm6300.castL (by kernel_rfl))
    
    exact sim_again (k + 1, pl1.set x (i : Int)) (by kernel_rfl) (by show n - (k + 1) < n - k; omega) (by kernel_rfl) (by kernel_rfl) (by kernel_rfl) hag.ag (Rel.cast (by assumption) (by kernel_rfl)) (by kernel_rfl) (by kernel_rfl) ⟨hlt, hst, hs.cut hag rfl (by kernel_rfl), hs2.cut hag rfl (by kernel_rfl), hrow.cut hag rfl (by kernel_rfl), hrd.cut hag rfl (by kernel_rfl), hpl.cut hag rfl (by kernel_rfl)⟩
  · have hag9 := hR2.ag_ 2 (by kernel_rfl)
    refine sim_run 6 [] (hR2.cast (by kernel_rfl)) (by kernel_rfl) trivial (fun ρ6400 w6400 hm6400 hR6400 => ?_)
    have hs := hs.moved (hm6400.castL (by kernel_rfl))
    have hs2 := hs2.moved (hm6400.castL (by kernel_rfl))
    have hrow := hrow.moved (hm6400.castL (by kernel_rfl))
    have hrd := hrd.moved (hm6400.castL (by kernel_rfl))
    have hpl := hpl.moved (hm6400.castL (by kernel_rfl))
    have hag := hag.moved (hm6400.castL (by kernel_rfl))
    have hag9 := hag9.moved (hm6400.castL (by kernel_rfl))
    refine sim_place (.v (.slice (some ⟨ga, oa, none⟩) m co)) m 1 (i : Int) 2 0 (by kernel_rfl) (by omega) (by omega) rfl (by simp only [Nm.at_, hag.at_ 2 (by omega), e2, Nat.add_zero, Int.toNat_natCast, Nat.mul_one]) ?_
    refine sim_run 4 [] (hR6400.cast (by kernel_rfl)) (by kernel_rfl) trivial (fun ρ6402 w6402 hm6402 hR6402 => ?_)
    have hs := hs.moved (hm6402.castL (by kernel_rfl))
    have hs2 := hs2.moved (hm6402.castL (by kernel_rfl))
    have hrow := hrow.moved (hm6402.castL (by kernel_rfl))
    have hrd := hrd.moved (hm6402.castL (by kernel_rfl))
    have hpl := hpl.moved (hm6402.castL (by kernel_rfl))
    have hag := hag.moved (hm6402.castL (by kernel_rfl))
    have hag9 := hag9.moved (hm6402.castL (by kernel_rfl))
    refine sim_know 115 (decide ((↑(k, pl1).fst : Int) < (↑n : Int))) false (by kernel_rfl) (decide_eq_false (by omega)) ?_
    refine sim_run 1 [] (hR6402.cast (by kernel_rfl)) (by kernel_rfl) trivial (fun ρ6403 w6403 hm6403 hR6403 => ?_)
    have hs := hs.moved (hm6403.castL (by kernel_rfl))
    have hs2 := hs2.moved (hm6403.castL (by kernel_rfl))
    have hrow := hrow.moved (hm6403.castL (by kernel_rfl))
    have hrd := hrd.moved (hm6403.castL (by kernel_rfl))
    have hpl := hpl.moved (hm6403.castL (by kernel_rfl))
    have hag := hag.moved (hm6403.castL (by kernel_rfl))
    have hag9 := hag9.moved (hm6403.castL (by kernel_rfl))
    refine sim_leave (by kernel_rfl) ?_
    refine sim_run 6 [⟨27, 1, LI (IntKind.i64.wrap ((↑i : Int) + 1)), LI ((↑i : Int) + 1)⟩] (hR6403.cast (by kernel_rfl)) (by kernel_rfl) ⟨eqi (IntWalk.i64_in _ (by omega)), trivial⟩ (fun ρ6404 w6404 hm6404 hR6404 => ?_)
    have hs := hs.moved (hm6404.castL (by kernel_rfl))
    have hs2 := hs2.moved (hm6404.castL (by kernel_rfl))
    have hrow := hrow.moved (hm6404.castL (by kernel_rfl))
    have hrd := hrd.moved (hm6404.castL (by kernel_rfl))
    have hpl := hpl.moved (hm6404.castL (by kernel_rfl))
    have hag := hag.moved (hm6404.castL (by kernel_rfl))
    have hag9 := hag9.moved (hm6404.castL (by kernel_rfl))
    
    exact hfin _ _ _ _ (hPl.row hul ho (by rw [hxs]; omega)) (by kernel_rfl) (by kernel_rfl) (by kernel_rfl) ⟨hagb.trans hag9.ag (by omega), hag9.le⟩ (by assumption : Rel _ _ _ _ _) (by kernel_rfl) hs hs2 hrow hpl
end Go.Proofs.Ytnfgndapalkbcaa
