/-
  What is straight ahead of a number has it straight behind; whole classes are told; none is ahead of itself.
-/
import Derived.Test.YtnfgndapalkbcaaLinkNear5
namespace Go.Proofs.Ytnfgndapalkbcaa
open Go Go.RowKit
theorem near_add (q : GrP) (u : List Nat) (ls : List Lk) (x : Lk) (A : Option Addr) (w : World) (h : GrV q u ls w) (hi : GInv u ls) (hr : Reads w w.heap.size 3 A 1 (lkV [x])) (hA : ∀ a, A = some a → ¬ q.has a.block) : Calls Try.prog 11 #[.pointer (some ⟨q.b, 0, none⟩), .slice A 1 1] w (AddQ w q (tryM u ls [x]) (addU u ls [x]) (addL u ls [x])) :=
  add_at q u ls A 1 1 w.heap.size [x] _ _ _ w h hi hr (Nat.le_refl _) (by omega) (fun a e _ => hA a e) rfl rfl rfl
attribute [local irreducible] run goO leaveK someK nextK nextT nextOT nextOD loopBody loopRest loopK fillJ tmplOf tmplJ mergeT At AtO drawOk ordOf gateOf callC callO topOp topO idxOf appOf storeOf clearOf sliceOf calleeOf calleeO topQ idxQ newRowOf resL stepOp seek
set_option maxRecDepth 100000 in
set_option maxHeartbeats 4000000 in
theorem near_main (w0 : World) (q : GrP) (u : List Nat) (ls : List Lk) (N : Nat) (w : World) (ρ : Nm) (hR : Rel [] w0 ρ [gR q] w) (hs : Sta q.has (GrV q u ls) ρ [gR q] w) (e0 : ρ 0 = (q.b, 0)) (hGI : GInv u ls) (hul : u.length = N) (d : Nat → Value) :
    At Try.prog (bodyPost Try.prog Try.f3 (fun e w' => e = .returned (.bool true) ∧ Below w0.heap.size w0 w')) ⟨regK Try.f3 10, fillJ (tmplJ Try.f3.ntmps 0 [(0, LI (N : Int)), (5, .ptr 0 0)]) d 0, [gR q]⟩ ρ w := by
  have hule := hGI.le
  have hag := hR.ag_ 1 (by kernel_rfl)
  refine sim_run 3 [] (hR.cast (by kernel_rfl)) (by kernel_rfl) trivial (fun ρ6000 w6000 hm6000 hR6000 => ?_)
  have hs := hs.moved (hm6000.castL (by kernel_rfl))
  have hag := hag.moved (hm6000.castL (by kernel_rfl))
  
  have e0 := (hag.at_ 0 (by omega)).trans e0
  refine sim_loop (ι := Nat) (T := []) (w0 := w0) 1 [0, 5] (fun i => [(8, LI i)]) (fun _ => [gR q]) (fun i w1 => (1 ≤ i ∧ i ≤ N + 1) ∧ Sta q.has (GrV q u ls) ρ6000 [gR q] w1) (fun i => N + 1 - i) (by kernel_rfl) (by kernel_rfl) ((by assumption : Rel _ _ _ _ _).cast (by kernel_rfl)) ⟨⟨by omega, by omega⟩, hs.castR (by kernel_rfl)⟩ ?_
  iterate 8 (try clear hs)
  iterate 8 (try clear hag)
  rintro i d2 w2 hR2 ⟨⟨hi1, hi2⟩, hs⟩
  have hag := hR2.ag_ 1 (by kernel_rfl)
  by_cases hlt : i ≤ N
  · refine sim_run 7 [] (hR2.cast (by kernel_rfl)) (by kernel_rfl) trivial (fun ρ6100 w6100 hm6100 hR6100 => ?_)
    have hs := hs.moved (hm6100.castL (by kernel_rfl))
    have hag := hag.moved (hm6100.castL (by kernel_rfl))
    refine sim_know 52 (decide ((↑i : Int) ≤ (↑N : Int))) true (by kernel_rfl) (decide_eq_true (by omega)) ?_
    refine sim_run 6 [] (hR6100.cast (by kernel_rfl)) (by kernel_rfl) trivial (fun ρ6101 w6101 hm6101 hR6101 => ?_)
    have hs := hs.moved (hm6101.castL (by kernel_rfl))
    have hag := hag.moved (hm6101.castL (by kernel_rfl))
    
    refine sim_to (regK Try.f3 13) (tmplJ Try.f3.ntmps 0 [(0, LI (N : Int)), (5, .ptr 0 0), (8, LI (i : Int))]) [gR q] (by kernel_rfl) (by kernel_rfl) (by kernel_rfl) (fun d6 => ?_)
    refine near_round ((by assumption : Rel _ _ _ _ _).cast (by kernel_rfl)) (hs.castR (by kernel_rfl)) hGI ((hag.at_ 0 (by omega)).trans e0) ⟨hi1, by omega⟩ d6 (fun c' ρ' w' hk' hm' hl' hag' hR' htk hs' => ?_)
    have hag7 : Ag 1 ρ6000 ρ' c'.rs := ⟨hag.ag.trans hag'.ag (by omega), hag'.le⟩
    exact sim_again (i + 1) hk' (by show N + 1 - (i + 1) < N + 1 - i; omega) ((congrArg (mergeT · c'.tmps) (by kernel_rfl)).trans hm') ((congrArg List.length (by kernel_rfl)).trans hl') (by kernel_rfl) hag7.ag hR' htk (by kernel_rfl) ⟨⟨by omega, by omega⟩, hs'.cut hag7 rfl htk⟩
  · refine sim_run 7 [] (hR2.cast (by kernel_rfl)) (by kernel_rfl) trivial (fun ρ6200 w6200 hm6200 hR6200 => ?_)
    have hs := hs.moved (hm6200.castL (by kernel_rfl))
    have hag := hag.moved (hm6200.castL (by kernel_rfl))
    refine sim_know 52 (decide ((↑i : Int) ≤ (↑N : Int))) false (by kernel_rfl) (decide_eq_false (by omega)) ?_
    refine sim_run 1 [] (hR6200.cast (by kernel_rfl)) (by kernel_rfl) trivial (fun ρ6201 w6201 hm6201 hR6201 => ?_)
    have hs := hs.moved (hm6201.castL (by kernel_rfl))
    have hag := hag.moved (hm6201.castL (by kernel_rfl))
    refine sim_leave (by kernel_rfl) ?_
    refine sim_run 2 [] (hR6201.cast (by kernel_rfl)) (by kernel_rfl) trivial (fun ρ6202 w6202 hm6202 hR6202 => ?_)
    have hs := hs.moved (hm6202.castL (by kernel_rfl))
    have hag := hag.moved (hm6202.castL (by kernel_rfl))
    refine sim_call 9 [] (by kernel_rfl) ?_
    refine Calls.mono (alive18_any _) ?_
    rintro e6203 w6203 ⟨rfl, hb6203⟩
    have hR6203 := hR6202.below hb6203
    have hs := hs.below hb6203
    refine Back.of (LB true) hR6203 rfl ?_
    refine sim_run 2 [] (hR6203.cast (by kernel_rfl)) (by kernel_rfl) trivial (fun ρ6204 w6204 hm6204 hR6204 => ?_)
    have hag := hag.moved (hm6204.castL (by kernel_rfl))
    have hs := hs.moved (hm6204.castL (by kernel_rfl))
    refine sim_ret (LB true) hR6204 (by kernel_rfl) (by kernel_rfl) ?_
    exact ⟨rfl, hR6204.toBelow⟩
    
set_option maxRecDepth 100000 in
set_option maxHeartbeats 4000000 in
theorem linkNear_walk (w : World) (n : Int) (hn64 : -9223372036854775808 ≤ n ∧ n ≤ 9223372036854775807) (A : Option Addr) (k c : Nat) (l : List Lk) (hl : Lks w A k l) : Calls Try.prog 3 #[.int .i64 n, .slice A k c] w fun e w' => e = .returned (.bool true) ∧ Below w.heap.size w w' := by
  refine sim_enter Try.func3 ρ0 [LI n, .v (.slice A k c)] [] (by kernel_rfl) rfl ?_
  have hR := Rel.start [] w ρ0
  have hll := lkV_num hl.rd
  refine sim_run 10 [] (hR.cast (by kernel_rfl)) (by kernel_rfl) trivial (fun ρ7100 w7100 hm7100 hR7100 => ?_)
  refine sim_fork 20 (decide (n < 1)) (by kernel_rfl) (fun hq7101 => ?_) (fun hq7101 => ?_)
  have hq7101 := of_decide_eq_true hq7101
  refine sim_run 12 [] (hR7100.cast (by kernel_rfl)) (by kernel_rfl) trivial (fun ρ7102 w7102 hm7102 hR7102 => ?_)
  refine sim_call 9 [] (by kernel_rfl) ?_
  refine Calls.mono (alive18_any _) ?_
  rintro e7103 w7103 ⟨rfl, hb7103⟩
  have hR7103 := hR7102.below hb7103
  refine Back.of (LB true) hR7103 rfl ?_
  refine sim_run 2 [] (hR7103.cast (by kernel_rfl)) (by kernel_rfl) trivial (fun ρ7104 w7104 hm7104 hR7104 => ?_)
  refine sim_ret (LB true) hR7104 (by kernel_rfl) (by kernel_rfl) ?_
  exact ⟨rfl, hR7104.toBelow⟩
  have hq7101 := of_decide_eq_false hq7101
  refine sim_run 4 [] (hR7100.cast (by kernel_rfl)) (by kernel_rfl) trivial (fun ρ7105 w7105 hm7105 hR7105 => ?_)
  refine sim_fork 24 (decide (n > 20)) (by kernel_rfl) (fun hq7106 => ?_) (fun hq7106 => ?_)
  have hq7106 := of_decide_eq_true hq7106
  refine sim_run 8 [] (hR7105.cast (by kernel_rfl)) (by kernel_rfl) trivial (fun ρ7107 w7107 hm7107 hR7107 => ?_)
  refine sim_call 9 [] (by kernel_rfl) ?_
  refine Calls.mono (alive18_any _) ?_
  rintro e7108 w7108 ⟨rfl, hb7108⟩
  have hR7108 := hR7107.below hb7108
  refine Back.of (LB true) hR7108 rfl ?_
  refine sim_run 2 [] (hR7108.cast (by kernel_rfl)) (by kernel_rfl) trivial (fun ρ7109 w7109 hm7109 hR7109 => ?_)
  refine sim_ret (LB true) hR7109 (by kernel_rfl) (by kernel_rfl) ?_
  exact ⟨rfl, hR7109.toBelow⟩
  have hq7106 := of_decide_eq_false hq7106
  refine sim_run 5 [] (hR7105.cast (by kernel_rfl)) (by kernel_rfl) trivial (fun ρ7110 w7110 hm7110 hR7110 => ?_)
  refine sim_fork 28 (decide ((↑k : Int) > 40)) (by kernel_rfl) (fun hq7111 => ?_) (fun hq7111 => ?_)
  have hq7111 := of_decide_eq_true hq7111
  refine sim_run 3 [] (hR7110.cast (by kernel_rfl)) (by kernel_rfl) trivial (fun ρ7112 w7112 hm7112 hR7112 => ?_)
  refine sim_call 9 [] (by kernel_rfl) ?_
  refine Calls.mono (alive18_any _) ?_
  rintro e7113 w7113 ⟨rfl, hb7113⟩
  have hR7113 := hR7112.below hb7113
  refine Back.of (LB true) hR7113 rfl ?_
  refine sim_run 2 [] (hR7113.cast (by kernel_rfl)) (by kernel_rfl) trivial (fun ρ7114 w7114 hm7114 hR7114 => ?_)
  refine sim_ret (LB true) hR7114 (by kernel_rfl) (by kernel_rfl) ?_
  exact ⟨rfl, hR7114.toBelow⟩
  have hq7111 := of_decide_eq_false hq7111
  refine sim_run 4 [] (hR7110.cast (by kernel_rfl)) (by kernel_rfl) trivial (fun ρ7115 w7115 hm7115 hR7115 => ?_)
  
  obtain ⟨N, rfl⟩ : ∃ N : Nat, n = N := ⟨n.toNat, by omega⟩
  have hN : N ≤ 1000 := by omega
  have hR3 := (by assumption : Rel _ _ _ _ _).cast (rs' := []) (by kernel_rfl)
  refine sim_to (regK Try.f3 3) (tmplJ Try.f3.ntmps 0 [(0, LI (N : Int)), (1, .v (.slice A k c))]) [] (by kernel_rfl) (by kernel_rfl) (by kernel_rfl) (fun d3 => ?_)
  refine sim_run 1 [] (hR3.cast (by kernel_rfl)) (by kernel_rfl) trivial (fun ρ7200 w7200 hm7200 hR7200 => ?_)
  refine sim_call 10 [LI ((↑N : Int))] (by kernel_rfl) ?_
  refine Calls.mono (newG_any (N) (hN) _) ?_
  rintro e7201 w7201 ⟨⟨b, pb, pg, Ap, cp, L, cl⟩, rfl, hg7201, hge7201, hb7201⟩
  refine Back.gr 0 (by kernel_rfl) hg7201 hge7201 (hR7200) hb7201 (by kernel_rfl) (fun ρ7201 e0 hm7201 hR7201 hs => ?_)
  have hT0 := fun x hx => Or.inr (a := x ∈ ([] : List Nat)) (Nat.le_trans (hR7200).keeps.size (hge7201 x hx))
  have hag := hR7201.ag_ 1 (by kernel_rfl)
  refine sim_run 20 [] (hR7201.cast (by kernel_rfl)) (by kernel_rfl) trivial (fun ρ7202 w7202 hm7202 hR7202 => ?_)
  have hs := hs.moved (hm7202.castL (by kernel_rfl))
  have hag := hag.moved (hm7202.castL (by kernel_rfl))
  
  have e0 := (hag.at_ 0 (by omega)).trans e0
  have hGI : GInv (Uf.fresh N) [] := GInv.fresh hN
  refine sim_loop (ι := Nat × GrP × List Nat × List Lk) (T := []) (w0 := w) (0, ⟨b, pb, pg, Ap, cp, L, cl⟩, Uf.fresh N, []) [0, 1, 5] (fun x => [(7, LI x.1)]) (fun _ => [gR ⟨b, pb, pg, Ap, cp, L, cl⟩]) (fun x w1 => x.1 ≤ k ∧ x.2.1.b = b ∧ x.2.1.pb = pb ∧ Sta x.2.1.has (GrV x.2.1 x.2.2.1 x.2.2.2) ρ7202 [gR ⟨b, pb, pg, Ap, cp, L, cl⟩] w1 ∧ GInv x.2.2.1 x.2.2.2 ∧ x.2.2.1.length = N ∧ (∀ y, x.2.1.has y → y ∈ ([] : List Nat) ∨ w.heap.size ≤ y)) (fun x => k - x.1) (by kernel_rfl) (by kernel_rfl) ((by assumption : Rel _ _ _ _ _).cast (by kernel_rfl)) ⟨Nat.zero_le _, rfl, rfl, hs.castR (by kernel_rfl), hGI, Uf.fresh_length N, hT0⟩ ?_
  iterate 8 (try clear hs)
  iterate 8 (try clear hag)
  iterate 8 (try clear hT0)
  rintro ⟨i, ⟨b1, pb1, pg1, A1, c1, L1, cl1⟩, u, ls⟩ d w2 hR2 ⟨hi, hb1, hpb1, hs, hGI, hul, hT0⟩
  dsimp only at hi hb1 hpb1 hs hGI hT0 hul
  subst hb1 hpb1
  have hag := hR2.ag_ 1 (by kernel_rfl)
  by_cases hlt : i < k
  · obtain ⟨x, hx⟩ : ∃ x, l[i]? = some x := ⟨_, List.getElem?_eq_getElem (by omega)⟩
    refine sim_see x.cells i 1 (by kernel_rfl) (by rw [List.getElem?_map, hx]; rfl) hl.rd (lk_in l) (by omega) hlt (Nat.le_refl _) (by simp) hR2 (by kernel_rfl) (fun ga oa ρE eA hgT hgl hmE eE hRE => ?_)
    subst eA
    have hs := hs.moved hmE
    have hag := hag.moved hmE
    have hag2 := hRE.ag_ 2 (by kernel_rfl)
    refine sim_run 8 [] (hRE.cast (by kernel_rfl)) (by kernel_rfl) trivial (fun ρ7300 w7300 hm7300 hR7300 => ?_)
    have hs := hs.moved (hm7300.castL (by kernel_rfl))
    have hag := hag.moved (hm7300.castL (by kernel_rfl))
    have hag2 := hag2.moved (hm7300.castL (by kernel_rfl))
    refine sim_know 40 (decide ((↑(i, GrP.mk b1 pb1 pg1 A1 c1 L1 cl1, u, ls).fst : Int) < (↑k : Int))) true (by kernel_rfl) (decide_eq_true (by omega)) ?_
    refine sim_run 8 [] (hR7300.cast (by kernel_rfl)) (by kernel_rfl) trivial (fun ρ7301 w7301 hm7301 hR7301 => ?_)
    have hs := hs.moved (hm7301.castL (by kernel_rfl))
    have hag := hag.moved (hm7301.castL (by kernel_rfl))
    have hag2 := hag2.moved (hm7301.castL (by kernel_rfl))
    refine sim_place (.v (.slice (some ⟨ga, oa, none⟩) k c)) k 3 i 1 0 (by kernel_rfl) (by omega) (by omega) rfl (by simp only [Nm.at_, hag2.at_ 1 (by omega), eE, Nat.add_zero, Int.toNat_natCast]) ?_
    refine sim_run 2 [] (hR7301.cast (by kernel_rfl)) (by kernel_rfl) trivial (fun ρ7303 w7303 hm7303 hR7303 => ?_)
    have hs := hs.moved (hm7303.castL (by kernel_rfl))
    have hag := hag.moved (hm7303.castL (by kernel_rfl))
    have hag2 := hag2.moved (hm7303.castL (by kernel_rfl))
    
    refine sim_call 11 [.ptr 0 0, .slc 2 0 1 1] (by kernel_rfl) ?_
    have ezT := (hag.at_ 0 (by omega)).trans e0
    simp only [denL, LV.den, Nm.at_, ezT, Nat.add_zero]
    have hRT := (by assumption : Rel _ _ _ _ _)
    have a1T := hs.is
    have a2T := Rel.reads hRT (n := 2) (size := 3) (m := 1) (vs := lkV [x]) (b := true) (by kernel_rfl) rfl
    have a3T := hs.farA (n := 2) (r := ⟨(lkV [x]).map .v, true⟩) (by kernel_rfl) rfl
    have a4T := near_add _ u ls x _ _ a1T hGI a2T (a3T _)
    refine Calls.mono a4T ?_
    rintro eT wT ⟨rfl, pg2, A2', cp2, L2, cl2, hgT, hkT, hhT⟩
    have hga : (ρ7303 1).1 = ga := by rw [hag2.at_ 1 (by omega), eE]
    have hRq := hRT.afterG hs hkT hgT rfl rfl hT0 0 (by kernel_rfl) ezT [0, 1] (by kernel_rfl) (fun k hk hne hq => by
      obtain rfl : k = 1 := by simp at hk; omega
      rw [hga] at hq
      exact (hT0 _ hq).elim (by simp) (fun h => by omega))
    have hs2 := hs.afterG hRT hgT hhT
    have hT2 := hT_new hRT hT0 hhT
    clear hs hT0 a1T a2T a3T a4T hRT
    have hs := hs2
    have hT0 := hT2
    clear hs2 hT2
    have hGI2 := hGI.addM [x]
    refine Back.of (LI (tryM u ls [x])) hRq rfl ?_
    refine sim_run 7 [⟨8, 1, LI (IntKind.i64.wrap ((↑i : Int) + 1)), LI ((↑i : Int) + 1)⟩] (hRq.cast (by kernel_rfl)) (by kernel_rfl) ⟨eqi (IntWalk.i64_in _ (by omega)), trivial⟩ (fun ρ7500 w7500 hm7500 hR7500 => ?_)
    have hag := hag.moved (hm7500.castL (by kernel_rfl))
    have hag2 := hag2.moved (hm7500.castL (by kernel_rfl))
    have hs := hs.moved (hm7500.castL (by kernel_rfl))
    
    exact sim_again (i + 1, ⟨b1, pb1, pg2, A2', cp2, L2, cl2⟩, addU u ls [x], addL u ls [x]) (by kernel_rfl) (by show k - (i + 1) < k - i; omega) (by kernel_rfl) (by kernel_rfl) (by kernel_rfl) hag.ag (Rel.cast (by assumption) (by kernel_rfl)) (by kernel_rfl) (by kernel_rfl) ⟨hlt, rfl, rfl, hs.cut hag rfl (by kernel_rfl), hGI2, (addU_len u ls [x]).trans hul, hT0⟩
  · refine sim_run 8 [] (hR2.cast (by kernel_rfl)) (by kernel_rfl) trivial (fun ρ7400 w7400 hm7400 hR7400 => ?_)
    have hs := hs.moved (hm7400.castL (by kernel_rfl))
    have hag := hag.moved (hm7400.castL (by kernel_rfl))
    refine sim_know 40 (decide ((↑(i, GrP.mk b1 pb1 pg1 A1 c1 L1 cl1, u, ls).fst : Int) < (↑k : Int))) false (by kernel_rfl) (decide_eq_false (by omega)) ?_
    refine sim_run 1 [] (hR7400.cast (by kernel_rfl)) (by kernel_rfl) trivial (fun ρ7401 w7401 hm7401 hR7401 => ?_)
    have hs := hs.moved (hm7401.castL (by kernel_rfl))
    have hag := hag.moved (hm7401.castL (by kernel_rfl))
    refine sim_leave (by kernel_rfl) ?_
    refine sim_run 3 [] (hR7401.cast (by kernel_rfl)) (by kernel_rfl) trivial (fun ρ7402 w7402 hm7402 hR7402 => ?_)
    have hs := hs.moved (hm7402.castL (by kernel_rfl))
    have hag := hag.moved (hm7402.castL (by kernel_rfl))
    
    refine sim_to (regK Try.f3 10) (tmplJ Try.f3.ntmps 0 [(0, LI (N : Int)), (5, .ptr 0 0)]) [gR ⟨b1, pb1, pg1, A1, c1, L1, cl1⟩] (by kernel_rfl) (by kernel_rfl) (by kernel_rfl) (fun d4 => ?_)
    exact near_main w _ u ls N _ _ ((by assumption : Rel _ _ _ _ _).cast (by kernel_rfl)) (hs.castR (by kernel_rfl)) ((hag.at_ 0 (by omega)).trans e0) hGI hul d4
end Go.Proofs.Ytnfgndapalkbcaa
