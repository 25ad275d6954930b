/-
  Try says what Add does, and changes nothing; what is refused changes nothing either: for every number and every two lists of links.
-/
import Derived.Test.YtnfgndapalkbcaaLinkTries1
namespace Go.Proofs.Ytnfgndapalkbcaa
open Go Go.RowKit
/-- one link is added -/
theorem add_one (q : GrP) (u : List Nat) (ls : List Lk) (x : Lk) (A : Option Addr) (w : World) (h : GrV q u ls w) (hi : GInv u ls) (hr : Reads w w.heap.size 3 A 1 (lkV [x])) (hA : ∀ a, A = some a → ¬ q.has a.block) : Calls Try.prog 11 #[.pointer (some ⟨q.b, 0, none⟩), .slice A 1 1] w (AddQ w q (tryM u ls [x]) (addU u ls [x]) (addL u ls [x])) :=
  add_at q u ls A 1 1 w.heap.size [x] _ _ _ w h hi hr (Nat.le_refl _) (by omega) (fun a e _ => hA a e) rfl rfl rfl
attribute [local irreducible] run goO leaveK someK nextK nextT nextOT nextOD loopBody loopRest loopK fillJ tmplOf tmplJ mergeT At AtO drawOk ordOf gateOf callC callO topOp topO idxOf appOf storeOf clearOf sliceOf calleeOf calleeO topQ idxQ newRowOf resL stepOp seek
set_option maxRecDepth 100000 in
set_option maxHeartbeats 4000000 in
theorem linkTries_walk (w : World) (n : Int) (hn64 : -9223372036854775808 ≤ n ∧ n ≤ 9223372036854775807) (A : Option Addr) (k c : Nat) (l : List Lk) (hl : Lks w A k l) (A2 : Option Addr) (k2 c2 : Nat) (m : List Lk) (hml : Lks w A2 k2 m) : Calls Try.prog 5 #[.int .i64 n, .slice A k c, .slice A2 k2 c2] w fun e w' => e = .returned (.bool true) ∧ Below w.heap.size w w' := by
  refine sim_enter Try.func5 ρ0 [LI n, .v (.slice A k c), .v (.slice A2 k2 c2)] [] (by kernel_rfl) rfl ?_
  have hR := Rel.start [] w ρ0
  have hll := lkV_num hl.rd
  have hlm := lkV_num hml.rd
  refine sim_run 10 [] (hR.cast (by kernel_rfl)) (by kernel_rfl) trivial (fun ρ100 w100 hm100 hR100 => ?_)
  refine sim_fork 20 (decide (n < 0)) (by kernel_rfl) (fun hq101 => ?_) (fun hq101 => ?_)
  have hq101 := of_decide_eq_true hq101
  refine sim_run 17 [] (hR100.cast (by kernel_rfl)) (by kernel_rfl) trivial (fun ρ102 w102 hm102 hR102 => ?_)
  refine sim_call 9 [] (by kernel_rfl) ?_
  refine Calls.mono (alive18_any _) ?_
  rintro e103 w103 ⟨rfl, hb103⟩
  have hR103 := hR102.below hb103
  refine Back.of (LB true) hR103 rfl ?_
  refine sim_run 2 [] (hR103.cast (by kernel_rfl)) (by kernel_rfl) trivial (fun ρ104 w104 hm104 hR104 => ?_)
  refine sim_ret (LB true) hR104 (by kernel_rfl) (by kernel_rfl) ?_
  exact ⟨rfl, hR104.toBelow⟩
  have hq101 := of_decide_eq_false hq101
  refine sim_run 4 [] (hR100.cast (by kernel_rfl)) (by kernel_rfl) trivial (fun ρ105 w105 hm105 hR105 => ?_)
  refine sim_fork 24 (decide (n > 30)) (by kernel_rfl) (fun hq106 => ?_) (fun hq106 => ?_)
  have hq106 := of_decide_eq_true hq106
  refine sim_run 13 [] (hR105.cast (by kernel_rfl)) (by kernel_rfl) trivial (fun ρ107 w107 hm107 hR107 => ?_)
  refine sim_call 9 [] (by kernel_rfl) ?_
  refine Calls.mono (alive18_any _) ?_
  rintro e108 w108 ⟨rfl, hb108⟩
  have hR108 := hR107.below hb108
  refine Back.of (LB true) hR108 rfl ?_
  refine sim_run 2 [] (hR108.cast (by kernel_rfl)) (by kernel_rfl) trivial (fun ρ109 w109 hm109 hR109 => ?_)
  refine sim_ret (LB true) hR109 (by kernel_rfl) (by kernel_rfl) ?_
  exact ⟨rfl, hR109.toBelow⟩
  have hq106 := of_decide_eq_false hq106
  refine sim_run 5 [] (hR105.cast (by kernel_rfl)) (by kernel_rfl) trivial (fun ρ110 w110 hm110 hR110 => ?_)
  refine sim_fork 29 (decide ((↑k : Int) > 60)) (by kernel_rfl) (fun hq111 => ?_) (fun hq111 => ?_)
  have hq111 := of_decide_eq_true hq111
  refine sim_run 8 [] (hR110.cast (by kernel_rfl)) (by kernel_rfl) trivial (fun ρ112 w112 hm112 hR112 => ?_)
  refine sim_call 9 [] (by kernel_rfl) ?_
  refine Calls.mono (alive18_any _) ?_
  rintro e113 w113 ⟨rfl, hb113⟩
  have hR113 := hR112.below hb113
  refine Back.of (LB true) hR113 rfl ?_
  refine sim_run 2 [] (hR113.cast (by kernel_rfl)) (by kernel_rfl) trivial (fun ρ114 w114 hm114 hR114 => ?_)
  refine sim_ret (LB true) hR114 (by kernel_rfl) (by kernel_rfl) ?_
  exact ⟨rfl, hR114.toBelow⟩
  have hq111 := of_decide_eq_false hq111
  refine sim_run 5 [] (hR110.cast (by kernel_rfl)) (by kernel_rfl) trivial (fun ρ115 w115 hm115 hR115 => ?_)
  refine sim_fork 33 (decide ((↑k2 : Int) > 60)) (by kernel_rfl) (fun hq116 => ?_) (fun hq116 => ?_)
  have hq116 := of_decide_eq_true hq116
  refine sim_run 3 [] (hR115.cast (by kernel_rfl)) (by kernel_rfl) trivial (fun ρ117 w117 hm117 hR117 => ?_)
  refine sim_call 9 [] (by kernel_rfl) ?_
  refine Calls.mono (alive18_any _) ?_
  rintro e118 w118 ⟨rfl, hb118⟩
  have hR118 := hR117.below hb118
  refine Back.of (LB true) hR118 rfl ?_
  refine sim_run 2 [] (hR118.cast (by kernel_rfl)) (by kernel_rfl) trivial (fun ρ119 w119 hm119 hR119 => ?_)
  refine sim_ret (LB true) hR119 (by kernel_rfl) (by kernel_rfl) ?_
  exact ⟨rfl, hR119.toBelow⟩
  have hq116 := of_decide_eq_false hq116
  refine sim_run 4 [] (hR115.cast (by kernel_rfl)) (by kernel_rfl) trivial (fun ρ120 w120 hm120 hR120 => ?_)
  
  obtain ⟨N, rfl⟩ : ∃ N : Nat, n = N := ⟨n.toNat, by omega⟩
  have hN : N ≤ 1000 := by omega
  have hR3 := (by assumption : Rel _ _ _ _ _).cast (rs' := []) (by kernel_rfl)
  refine sim_to (regK Try.f5 3) (tmplJ Try.f5.ntmps 0 [(0, LI (N : Int)), (1, .v (.slice A k c)), (2, .v (.slice A2 k2 c2))]) [] (by kernel_rfl) (by kernel_rfl) (by kernel_rfl) (fun d3 => ?_)
  refine sim_run 1 [] (hR3.cast (by kernel_rfl)) (by kernel_rfl) trivial (fun ρ200 w200 hm200 hR200 => ?_)
  refine sim_call 10 [LI ((↑N : Int))] (by kernel_rfl) ?_
  refine Calls.mono (newG_any (N) (hN) _) ?_
  rintro e201 w201 ⟨⟨b, pb, pg, Ap, cp, L, cl⟩, rfl, hg201, hge201, hb201⟩
  refine Back.gr 0 (by kernel_rfl) hg201 hge201 (hR200) hb201 (by kernel_rfl) (fun ρ201 e0 hm201 hR201 hs => ?_)
  have hT0 := fun x hx => Or.inr (a := x ∈ ([] : List Nat)) (Nat.le_trans (hR200).keeps.size (hge201 x hx))
  have hag := hR201.ag_ 1 (by kernel_rfl)
  refine sim_run 20 [] (hR201.cast (by kernel_rfl)) (by kernel_rfl) trivial (fun ρ202 w202 hm202 hR202 => ?_)
  have hs := hs.moved (hm202.castL (by kernel_rfl))
  have hag := hag.moved (hm202.castL (by kernel_rfl))
  
  have e0 := (hag.at_ 0 (by omega)).trans e0
  have hGI : GInv (Uf.fresh N) [] := GInv.fresh hN
  refine sim_loop (ι := Nat × GrP × List Nat × List Lk) (T := []) (w0 := w) (0, ⟨b, pb, pg, Ap, cp, L, cl⟩, Uf.fresh N, []) [1, 2, 7] (fun x => [(9, LI x.1)]) (fun _ => [gR ⟨b, pb, pg, Ap, cp, L, cl⟩]) (fun x w1 => x.1 ≤ k ∧ x.2.1.b = b ∧ x.2.1.pb = pb ∧ Sta x.2.1.has (GrV x.2.1 x.2.2.1 x.2.2.2) ρ202 [gR ⟨b, pb, pg, Ap, cp, L, cl⟩] w1 ∧ GInv x.2.2.1 x.2.2.2 ∧ (∀ y, x.2.1.has y → y ∈ ([] : List Nat) ∨ w.heap.size ≤ y)) (fun x => k - x.1) (by kernel_rfl) (by kernel_rfl) ((by assumption : Rel _ _ _ _ _).cast (by kernel_rfl)) ⟨Nat.zero_le _, rfl, rfl, hs.castR (by kernel_rfl), hGI, hT0⟩ ?_
  iterate 8 (try clear hs)
  iterate 8 (try clear hag)
  iterate 8 (try clear hT0)
  rintro ⟨i, ⟨b1, pb1, pg1, A1, c1, L1, cl1⟩, u, ls⟩ d w2 hR2 ⟨hi, hb1, hpb1, hs, hGI, hT0⟩
  dsimp only at hi hb1 hpb1 hs hGI hT0
  subst hb1 hpb1
  have hag := hR2.ag_ 1 (by kernel_rfl)
  by_cases hlt : i < k
  · obtain ⟨x, hx⟩ : ∃ x, l[i]? = some x := ⟨_, List.getElem?_eq_getElem (by omega)⟩
    refine sim_see x.cells i 1 (by kernel_rfl) (by rw [List.getElem?_map, hx]; rfl) hl.rd (lk_in l) (by omega) hlt (Nat.le_refl _) (by simp) hR2 (by kernel_rfl) (fun ga oa ρE eA hgT hgl hmE eE hRE => ?_)
    subst eA
    have hs := hs.moved hmE
    have hag := hag.moved hmE
    have hag2 := hRE.ag_ 2 (by kernel_rfl)
    refine sim_run 8 [] (hRE.cast (by kernel_rfl)) (by kernel_rfl) trivial (fun ρ300 w300 hm300 hR300 => ?_)
    have hs := hs.moved (hm300.castL (by kernel_rfl))
    have hag := hag.moved (hm300.castL (by kernel_rfl))
    have hag2 := hag2.moved (hm300.castL (by kernel_rfl))
    refine sim_know 45 (decide ((↑(i, GrP.mk b1 pb1 pg1 A1 c1 L1 cl1, u, ls).fst : Int) < (↑k : Int))) true (by kernel_rfl) (decide_eq_true (by omega)) ?_
    refine sim_run 8 [] (hR300.cast (by kernel_rfl)) (by kernel_rfl) trivial (fun ρ301 w301 hm301 hR301 => ?_)
    have hs := hs.moved (hm301.castL (by kernel_rfl))
    have hag := hag.moved (hm301.castL (by kernel_rfl))
    have hag2 := hag2.moved (hm301.castL (by kernel_rfl))
    refine sim_place (.v (.slice (some ⟨ga, oa, none⟩) k c)) k 3 i 1 0 (by kernel_rfl) (by omega) (by omega) rfl (by simp only [Nm.at_, hag2.at_ 1 (by omega), eE, Nat.add_zero, Int.toNat_natCast]) ?_
    refine sim_run 2 [] (hR301.cast (by kernel_rfl)) (by kernel_rfl) trivial (fun ρ303 w303 hm303 hR303 => ?_)
    have hs := hs.moved (hm303.castL (by kernel_rfl))
    have hag := hag.moved (hm303.castL (by kernel_rfl))
    have hag2 := hag2.moved (hm303.castL (by kernel_rfl))
    
    refine sim_call 11 [.ptr 0 0, .slc 2 0 1 1] (by kernel_rfl) ?_
    have ezT := (hag.at_ 0 (by omega)).trans e0
    simp only [denL, LV.den, Nm.at_, ezT, Nat.add_zero]
    have hRT := (by assumption : Rel _ _ _ _ _)
    have a1T := hs.is
    have a2T := Rel.reads hRT (n := 2) (size := 3) (m := 1) (vs := lkV [x]) (b := true) (by kernel_rfl) rfl
    have a3T := hs.farA (n := 2) (r := ⟨(lkV [x]).map .v, true⟩) (by kernel_rfl) rfl
    have a4T := add_one _ u ls x _ _ a1T hGI a2T (a3T _)
    refine Calls.mono a4T ?_
    rintro eT wT ⟨rfl, pg2, A2', cp2, L2, cl2, hgT, hkT, hhT⟩
    have hga : (ρ303 1).1 = ga := by rw [hag2.at_ 1 (by omega), eE]
    have hRq := hRT.afterG hs hkT hgT rfl rfl hT0 0 (by kernel_rfl) ezT [0, 1] (by kernel_rfl) (fun k hk hne hq => by
      obtain rfl : k = 1 := by simp at hk; omega
      rw [hga] at hq
      exact (hT0 _ hq).elim (by simp) (fun h => by omega))
    have hs2 := hs.afterG hRT hgT hhT
    have hT2 := hT_new hRT hT0 hhT
    clear hs hT0 a1T a2T a3T a4T hRT
    have hs := hs2
    have hT0 := hT2
    clear hs2 hT2
    have hGI2 := hGI.addM [x]
    refine Back.of (LI (tryM u ls [x])) hRq rfl ?_
    refine sim_run 7 [⟨8, 1, LI (IntKind.i64.wrap ((↑i : Int) + 1)), LI ((↑i : Int) + 1)⟩] (hRq.cast (by kernel_rfl)) (by kernel_rfl) ⟨eqi (IntWalk.i64_in _ (by omega)), trivial⟩ (fun ρ500 w500 hm500 hR500 => ?_)
    have hag := hag.moved (hm500.castL (by kernel_rfl))
    have hag2 := hag2.moved (hm500.castL (by kernel_rfl))
    have hs := hs.moved (hm500.castL (by kernel_rfl))
    
    exact sim_again (i + 1, ⟨b1, pb1, pg2, A2', cp2, L2, cl2⟩, addU u ls [x], addL u ls [x]) (by kernel_rfl) (by show k - (i + 1) < k - i; omega) (by kernel_rfl) (by kernel_rfl) (by kernel_rfl) hag.ag (Rel.cast (by assumption) (by kernel_rfl)) (by kernel_rfl) (by kernel_rfl) ⟨hlt, rfl, rfl, hs.cut hag rfl (by kernel_rfl), hGI2, hT0⟩
  · refine sim_run 8 [] (hR2.cast (by kernel_rfl)) (by kernel_rfl) trivial (fun ρ400 w400 hm400 hR400 => ?_)
    have hs := hs.moved (hm400.castL (by kernel_rfl))
    have hag := hag.moved (hm400.castL (by kernel_rfl))
    refine sim_know 45 (decide ((↑(i, GrP.mk b1 pb1 pg1 A1 c1 L1 cl1, u, ls).fst : Int) < (↑k : Int))) false (by kernel_rfl) (decide_eq_false (by omega)) ?_
    refine sim_run 1 [] (hR400.cast (by kernel_rfl)) (by kernel_rfl) trivial (fun ρ401 w401 hm401 hR401 => ?_)
    have hs := hs.moved (hm401.castL (by kernel_rfl))
    have hag := hag.moved (hm401.castL (by kernel_rfl))
    refine sim_leave (by kernel_rfl) ?_
    refine sim_run 2 [] (hR401.cast (by kernel_rfl)) (by kernel_rfl) trivial (fun ρ402 w402 hm402 hR402 => ?_)
    have hs := hs.moved (hm402.castL (by kernel_rfl))
    have hag := hag.moved (hm402.castL (by kernel_rfl))
    
    refine sim_to (regK Try.f5 10) (tmplJ Try.f5.ntmps 0 [(2, .v (.slice A2 k2 c2)), (7, .ptr 0 0)]) [gR ⟨b1, pb1, pg1, A1, c1, L1, cl1⟩] (by kernel_rfl) (by kernel_rfl) (by kernel_rfl) (fun d4 => ?_)
    exact tries_tail w _ u ls A2 k2 c2 m hml (by omega) _ _ ((by assumption : Rel _ _ _ _ _).cast (by kernel_rfl)) (hs.castR (by kernel_rfl)) ((hag.at_ 0 (by omega)).trans e0) hGI hT0 d4
end Go.Proofs.Ytnfgndapalkbcaa
