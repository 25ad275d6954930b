/-
  LinkNear: a whole class is told.
-/
import Derived.Test.YtnfgndapalkbcaaGrL
import Derived.Test.YtnfgndapalkbcaaOpLk
namespace Go.Proofs.Ytnfgndapalkbcaa
open Go Go.RowKit
theorem take_snoc {l : List Nat} {s p : Nat} (h : l[s]? = some p) : l.take (s + 1) = l.take s ++ [p] := by rw [List.take_add_one, h]; rfl
attribute [local irreducible] run goO leaveK someK nextK nextT nextOT nextOD loopBody loopRest loopK fillJ tmplOf tmplJ mergeT At AtO drawOk ordOf gateOf callC callO topOp topO idxOf appOf storeOf clearOf sliceOf calleeOf calleeO topQ idxQ newRowOf resL stepOp seek
set_option maxRecDepth 100000 in
set_option maxHeartbeats 4000000 in
theorem near_in {Q : Exit → Act → World → Prop} {R : Ending → World → Prop} [hB : Body Try.prog Q Try.f3 R] {ρ : Nm} {w0 w : World} {q : GrP} {u : List Nat} {ls : List Lk} {x y i N k j na ca nc cc ga oa gc oc Ba Bc : Nat} {a c : List Nat} (hR : Rel [] w0 ρ [gR q, ⟨[LI (x : Int)], false⟩, ⟨[LI (y : Int)], false⟩] w) (hs : Sta q.has (GrV q u ls) ρ [gR q, ⟨[LI (x : Int)], false⟩, ⟨[LI (y : Int)], false⟩] w) (ha : Sta (readS (some ⟨ga, oa, none⟩) Ba) (ReadW Ba 1 (some ⟨ga, oa, none⟩) na (nats a)) ρ [gR q, ⟨[LI (x : Int)], false⟩, ⟨[LI (y : Int)], false⟩] w) (hc : Sta (readS (some ⟨gc, oc, none⟩) Bc) (ReadW Bc 1 (some ⟨gc, oc, none⟩) nc (nats c)) ρ [gR q, ⟨[LI (x : Int)], false⟩, ⟨[LI (y : Int)], false⟩] w) (e2 : ρ 2 = (gc, oc + j)) (hj : j < nc) (hna : a.length = na) (hna1 : na ≤ 1000) (hnc1 : nc ≤ 1000) (hy : y ∈ a) (d : Nat → Value)
    (hfin : ∀ (c' : Cfg) (ρ' : Nm) (w' : World), c'.k = [] → mergeT (tmplJ Try.f3.ntmps 0 [(0, LI (N : Int)), (5, .ptr 0 0), (8, LI (i : Int)), (9, .v (.slice (some ⟨ga, oa, none⟩) na ca)), (10, LI (k : Int)), (14, .v (.slice (some ⟨gc, oc, none⟩) nc cc)), (15, LI ((j : Int) + 1))]) c'.tmps = c'.tmps → (tmplJ Try.f3.ntmps 0 [(0, LI (N : Int)), (5, .ptr 0 0), (8, LI (i : Int)), (9, .v (.slice (some ⟨ga, oa, none⟩) na ca)), (10, LI (k : Int)), (14, .v (.slice (some ⟨gc, oc, none⟩) nc cc)), (15, LI ((j : Int) + 1))]).length = c'.tmps.length → Ag 2 ρ ρ' c'.rs → Rel [] w0 ρ' c'.rs w' → c'.rs.take 2 = [gR q, ⟨[LI (x : Int)], false⟩] → Sta q.has (GrV q u ls) ρ' c'.rs w' → Sta (readS (some ⟨ga, oa, none⟩) Ba) (ReadW Ba 1 (some ⟨ga, oa, none⟩) na (nats a)) ρ' c'.rs w' → Sta (readS (some ⟨gc, oc, none⟩) Bc) (ReadW Bc 1 (some ⟨gc, oc, none⟩) nc (nats c)) ρ' c'.rs w' → At Try.prog Q c' ρ' w') :
    At Try.prog Q ⟨regK Try.f3 29, fillJ (tmplJ Try.f3.ntmps 0 [(0, LI (N : Int)), (5, .ptr 0 0), (8, LI (i : Int)), (9, .v (.slice (some ⟨ga, oa, none⟩) na ca)), (10, LI (k : Int)), (14, .v (.slice (some ⟨gc, oc, none⟩) nc cc)), (15, LI (j : Int))]) d 0, [gR q, ⟨[LI (x : Int)], false⟩, ⟨[LI (y : Int)], false⟩]⟩ ρ w := by
  have hag := hR.ag_ 3 (by kernel_rfl)
  have hag2 := hR.ag_ 2 (by kernel_rfl)
  refine sim_run 8 [] (hR.cast (by kernel_rfl)) (by kernel_rfl) trivial (fun ρ100 w100 hm100 hR100 => ?_)
  have hs := hs.moved (hm100.castL (by kernel_rfl))
  have ha := ha.moved (hm100.castL (by kernel_rfl))
  have hc := hc.moved (hm100.castL (by kernel_rfl))
  have hag := hag.moved (hm100.castL (by kernel_rfl))
  have hag2 := hag2.moved (hm100.castL (by kernel_rfl))
  
  refine sim_loop (ι := Nat × Bool) (T := []) (w0 := w0) (0, false) [0, 5, 8, 9, 10, 14, 15] (fun s => [(16, LB s.2), (17, LI s.1)]) (fun _ => [gR q, ⟨[LI (x : Int)], false⟩, ⟨[LI (y : Int)], false⟩]) (fun s w1 => s.1 ≤ na ∧ (s.2 = true ↔ y ∈ a.take s.1) ∧ Sta q.has (GrV q u ls) ρ100 [gR q, ⟨[LI (x : Int)], false⟩, ⟨[LI (y : Int)], false⟩] w1 ∧ Sta (readS (some ⟨ga, oa, none⟩) Ba) (ReadW Ba 1 (some ⟨ga, oa, none⟩) na (nats a)) ρ100 [gR q, ⟨[LI (x : Int)], false⟩, ⟨[LI (y : Int)], false⟩] w1 ∧ Sta (readS (some ⟨gc, oc, none⟩) Bc) (ReadW Bc 1 (some ⟨gc, oc, none⟩) nc (nats c)) ρ100 [gR q, ⟨[LI (x : Int)], false⟩, ⟨[LI (y : Int)], false⟩] w1) (fun s => na - s.1) (by kernel_rfl) (by kernel_rfl) ((by assumption : Rel _ _ _ _ _).cast (by kernel_rfl)) ⟨Nat.zero_le _, by simp, hs.castR (by kernel_rfl), ha.castR (by kernel_rfl), hc.castR (by kernel_rfl)⟩ ?_
  have hagb := hag2.ag
  have e2 := (hag.at_ 2 (by omega)).trans e2
  iterate 8 (try clear hs)
  iterate 8 (try clear ha)
  iterate 8 (try clear hc)
  iterate 8 (try clear hag)
  iterate 8 (try clear hag2)
  rintro ⟨s, inn⟩ d2 w2 hR2 ⟨hi, hin, hs, ha, hc⟩
  dsimp only at hi hin hs ha hc
  have hag := hR2.ag_ 3 (by kernel_rfl)
  by_cases hlt : s < na
  · obtain ⟨p, hp⟩ : ∃ p, a[s]? = some p := ⟨_, List.getElem?_eq_getElem (by omega)⟩
    refine sim_seeNat s 3 (by kernel_rfl) hp ha hR2 (by kernel_rfl) (fun g3 o3 ρE eA hgE hmE eE hRE => ?_)
    injection eA with eA
    injection eA with eg eo
    subst eg eo
    have hs := hs.moved hmE
    have ha := ha.moved hmE
    have hc := hc.moved hmE
    have hag := hag.moved hmE
    have hag4 := hRE.ag_ 4 (by kernel_rfl)
    have e2 := (hag.at_ 2 (by omega)).trans e2
    have e2' : ρE 2 = (gc, oc + j) := e2
    clear e2
    cases inn with
    | true =>
      refine sim_run 8 [] (hRE.cast (by kernel_rfl)) (by kernel_rfl) trivial (fun ρ200 w200 hm200 hR200 => ?_)
      have hs := hs.moved (hm200.castL (by kernel_rfl))
      have ha := ha.moved (hm200.castL (by kernel_rfl))
      have hc := hc.moved (hm200.castL (by kernel_rfl))
      have hag := hag.moved (hm200.castL (by kernel_rfl))
      have hag4 := hag4.moved (hm200.castL (by kernel_rfl))
      refine sim_know 134 (decide ((↑(s, true).fst : Int) < (↑na : Int))) true (by kernel_rfl) (decide_eq_true (by omega)) ?_
      refine sim_run 11 [⟨32, 1, LI (IntKind.i64.wrap ((↑(s, true).fst : Int) + 1)), LI ((↑(s, true).fst : Int) + 1)⟩] (hR200.cast (by kernel_rfl)) (by kernel_rfl) ⟨eqi (IntWalk.i64_in _ (by omega)), trivial⟩ (fun ρ201 w201 hm201 hR201 => ?_)
      have hs := hs.moved (hm201.castL (by kernel_rfl))
      have ha := ha.moved (hm201.castL (by kernel_rfl))
      have hc := hc.moved (hm201.castL (by kernel_rfl))
      have hag := hag.moved (hm201.castL (by kernel_rfl))
      have hag4 := hag4.moved (hm201.castL (by kernel_rfl))
      
      exact sim_again (s + 1, true) (by kernel_rfl) (by show na - (s + 1) < na - s; omega) (by kernel_rfl) (by kernel_rfl) (by kernel_rfl) hag.ag (Rel.cast (by assumption) (by kernel_rfl)) (by kernel_rfl) (by kernel_rfl) ⟨hlt, ⟨fun _ => by rw [take_snoc hp]; exact List.mem_append.2 (.inl (hin.1 rfl)), fun _ => rfl⟩, hs.cut hag rfl (by kernel_rfl), ha.cut hag rfl (by kernel_rfl), hc.cut hag rfl (by kernel_rfl)⟩
    | false =>
      refine sim_run 8 [] (hRE.cast (by kernel_rfl)) (by kernel_rfl) trivial (fun ρ300 w300 hm300 hR300 => ?_)
      have hs := hs.moved (hm300.castL (by kernel_rfl))
      have ha := ha.moved (hm300.castL (by kernel_rfl))
      have hc := hc.moved (hm300.castL (by kernel_rfl))
      have hag := hag.moved (hm300.castL (by kernel_rfl))
      have hag4 := hag4.moved (hm300.castL (by kernel_rfl))
      refine sim_know 134 (decide ((↑(s, false).fst : Int) < (↑na : Int))) true (by kernel_rfl) (decide_eq_true (by omega)) ?_
      refine sim_run 4 [] (hR300.cast (by kernel_rfl)) (by kernel_rfl) trivial (fun ρ301 w301 hm301 hR301 => ?_)
      have hs := hs.moved (hm301.castL (by kernel_rfl))
      have ha := ha.moved (hm301.castL (by kernel_rfl))
      have hc := hc.moved (hm301.castL (by kernel_rfl))
      have hag := hag.moved (hm301.castL (by kernel_rfl))
      have hag4 := hag4.moved (hm301.castL (by kernel_rfl))
      refine sim_draw [] (by kernel_rfl) (by kernel_rfl) hR301 (fun hR302 => ?_)
      have hs := hs.drew
      have ha := ha.drew
      have hc := hc.drew
      refine sim_ordN 4 [] hR302 (by kernel_rfl) trivial (fun ρ303 w303 hm303 hR303 => ?_)
      have hag := hag.moved (hm303.castL (by kernel_rfl))
      have hag4 := hag4.moved (hm303.castL (by kernel_rfl))
      have hs := hs.moved (hm303.castL (by kernel_rfl))
      have ha := ha.moved (hm303.castL (by kernel_rfl))
      have hc := hc.moved (hm303.castL (by kernel_rfl))
      refine sim_ord_index (.v (.slice (some ⟨ga, oa, none⟩) na ca)) na 1 (s : Int) 3 0 (by kernel_rfl) (by omega) (by omega) rfl hR303 (by simp only [Nm.at_, hag4.at_ 3 (by omega), eE, Nat.add_zero, Int.toNat_natCast, Nat.mul_one]) (fun hR304 => ?_)
      refine sim_ordN 3 [] hR304 (by kernel_rfl) trivial (fun ρ305 w305 hm305 hR305 => ?_)
      have hag := hag.moved (hm305.castL (by kernel_rfl))
      have hag4 := hag4.moved (hm305.castL (by kernel_rfl))
      have hs := hs.moved (hm305.castL (by kernel_rfl))
      have ha := ha.moved (hm305.castL (by kernel_rfl))
      have hc := hc.moved (hm305.castL (by kernel_rfl))
      refine sim_ord_index (.v (.slice (some ⟨gc, oc, none⟩) nc cc)) nc 1 (j : Int) 2 0 (by kernel_rfl) (by omega) (by omega) rfl hR305 (by simp only [Nm.at_, hag4.at_ 2 (by omega), e2', Nat.add_zero, Int.toNat_natCast, Nat.mul_one]) (fun hR307 => ?_)
      refine sim_ordN 4 [] hR307 (by kernel_rfl) trivial (fun ρ308 w308 hm308 hR308 => ?_)
      have hag := hag.moved (hm308.castL (by kernel_rfl))
      have hag4 := hag4.moved (hm308.castL (by kernel_rfl))
      have hs := hs.moved (hm308.castL (by kernel_rfl))
      have ha := ha.moved (hm308.castL (by kernel_rfl))
      have hc := hc.moved (hm308.castL (by kernel_rfl))
      refine sim_ord_endR hR308 (by kernel_rfl) (fun hR309 => ?_)
      refine sim_run 6 [⟨32, 1, LI (IntKind.i64.wrap ((↑(s, false).fst : Int) + 1)), LI ((↑(s, false).fst : Int) + 1)⟩] (hR309.cast (by kernel_rfl)) (by kernel_rfl) ⟨eqi (IntWalk.i64_in _ (by omega)), trivial⟩ (fun ρ310 w310 hm310 hR310 => ?_)
      have hag := hag.moved (hm310.castL (by kernel_rfl))
      have hag4 := hag4.moved (hm310.castL (by kernel_rfl))
      have hs := hs.moved (hm310.castL (by kernel_rfl))
      have ha := ha.moved (hm310.castL (by kernel_rfl))
      have hc := hc.moved (hm310.castL (by kernel_rfl))
      
      exact sim_again (s + 1, decide ((p : Int) = (y : Int))) (by kernel_rfl) (by show na - (s + 1) < na - s; omega) (by kernel_rfl) (by kernel_rfl) (by kernel_rfl) hag.ag (Rel.cast (by assumption) (by kernel_rfl)) (by kernel_rfl) (by kernel_rfl) ⟨hlt, by
        rw [take_snoc hp, List.mem_append, List.mem_singleton, decide_eq_true_iff]
        constructor
        · intro h; right; omega
        · rintro (h | h)
          · exact absurd (hin.2 h) (by simp)
          · omega, hs.cut hag rfl (by kernel_rfl), ha.cut hag rfl (by kernel_rfl), hc.cut hag rfl (by kernel_rfl)⟩
  · obtain rfl : inn = true := hin.2 (by rw [List.take_of_length_le (by omega)]; exact hy)
    have hag9 := hR2.ag_ 2 (by kernel_rfl)
    refine sim_run 8 [] (hR2.cast (by kernel_rfl)) (by kernel_rfl) trivial (fun ρ400 w400 hm400 hR400 => ?_)
    have hs := hs.moved (hm400.castL (by kernel_rfl))
    have ha := ha.moved (hm400.castL (by kernel_rfl))
    have hc := hc.moved (hm400.castL (by kernel_rfl))
    have hag := hag.moved (hm400.castL (by kernel_rfl))
    have hag9 := hag9.moved (hm400.castL (by kernel_rfl))
    refine sim_know 134 (decide ((↑(s, true).fst : Int) < (↑na : Int))) false (by kernel_rfl) (decide_eq_false (by omega)) ?_
    refine sim_run 1 [] (hR400.cast (by kernel_rfl)) (by kernel_rfl) trivial (fun ρ401 w401 hm401 hR401 => ?_)
    have hs := hs.moved (hm401.castL (by kernel_rfl))
    have ha := ha.moved (hm401.castL (by kernel_rfl))
    have hc := hc.moved (hm401.castL (by kernel_rfl))
    have hag := hag.moved (hm401.castL (by kernel_rfl))
    have hag9 := hag9.moved (hm401.castL (by kernel_rfl))
    refine sim_leave (by kernel_rfl) ?_
    refine sim_run 13 [⟨28, 1, LI (IntKind.i64.wrap ((↑j : Int) + 1)), LI ((↑j : Int) + 1)⟩] (hR401.cast (by kernel_rfl)) (by kernel_rfl) ⟨eqi (IntWalk.i64_in _ (by omega)), trivial⟩ (fun ρ402 w402 hm402 hR402 => ?_)
    have hs := hs.moved (hm402.castL (by kernel_rfl))
    have ha := ha.moved (hm402.castL (by kernel_rfl))
    have hc := hc.moved (hm402.castL (by kernel_rfl))
    have hag := hag.moved (hm402.castL (by kernel_rfl))
    have hag9 := hag9.moved (hm402.castL (by kernel_rfl))
    
    exact hfin _ _ _ (by kernel_rfl) (by kernel_rfl) (by kernel_rfl) ⟨hagb.trans hag9.ag (by omega), hag9.le⟩ (by assumption : Rel _ _ _ _ _) (by kernel_rfl) hs ha hc
end Go.Proofs.Ytnfgndapalkbcaa
