/-
  LinkOrders: the order has each number once, in its class; what a Before puts ahead stands ahead; links that are refused change nothing; links at once or one by one end the same.
-/
import Derived.Test.YtnfgndapalkbcaaLinkOrders9
namespace Go.Proofs.Ytnfgndapalkbcaa
open Go Go.RowKit
theorem ord_add (q : GrP) (u : List Nat) (ls : List Lk) (x : Lk) (A : Option Addr) (w : World) (h : GrV q u ls w) (hi : GInv u ls) (hr : Reads w w.heap.size 3 A 1 (lkV [x])) (hA : ∀ a, A = some a → ¬ q.has a.block) : Calls Try.prog 11 #[.pointer (some ⟨q.b, 0, none⟩), .slice A 1 1] w (AddQ w q (tryM u ls [x]) (addU u ls [x]) (addL u ls [x])) :=
  add_at q u ls A 1 1 w.heap.size [x] _ _ _ w h hi hr (Nat.le_refl _) (by omega) (fun a e _ => hA a e) rfl rfl rfl
theorem take_snocL {l : List Lk} {s : Nat} {p : Lk} (h : l[s]? = some p) : l.take (s + 1) = l.take s ++ [p] := by rw [List.take_add_one, h]; rfl
attribute [local irreducible] run goO leaveK someK nextK nextT nextOT nextOD loopBody loopRest loopK fillJ tmplOf tmplJ mergeT At AtO drawOk ordOf gateOf callC callO topOp topO idxOf appOf storeOf clearOf sliceOf calleeOf calleeO topQ idxQ newRowOf resL stepOp seek
set_option maxRecDepth 100000 in
set_option maxHeartbeats 4000000 in
theorem linkOrders_walk (w : World) (n : Int) (hn64 : -9223372036854775808 ≤ n ∧ n ≤ 9223372036854775807) (A : Option Addr) (k c : Nat) (l : List Lk) (hl : Lks w A k l) : Calls Try.prog 4 #[.int .i64 n, .slice A k c] w fun e w' => e = .returned (.bool true) ∧ Below w.heap.size w w' := by
  refine sim_enter Try.func4 ρ0 [LI n, .v (.slice A k c)] [] (by kernel_rfl) rfl ?_
  have hR := Rel.start [] w ρ0
  have hll := lkV_num hl.rd
  refine sim_run 10 [] (hR.cast (by kernel_rfl)) (by kernel_rfl) trivial (fun ρ17100 w17100 hm17100 hR17100 => ?_)
  refine sim_fork 25 (decide (n < 1)) (by kernel_rfl) (fun hq17101 => ?_) (fun hq17101 => ?_)
  have hq17101 := of_decide_eq_true hq17101
  refine sim_run 12 [] (hR17100.cast (by kernel_rfl)) (by kernel_rfl) trivial (fun ρ17102 w17102 hm17102 hR17102 => ?_)
  refine sim_call 9 [] (by kernel_rfl) ?_
  refine Calls.mono (alive18_any _) ?_
  rintro e17103 w17103 ⟨rfl, hb17103⟩
  have hR17103 := hR17102.below hb17103
  refine Back.of (LB true) hR17103 rfl ?_
  refine sim_run 2 [] (hR17103.cast (by kernel_rfl)) (by kernel_rfl) trivial (fun ρ17104 w17104 hm17104 hR17104 => ?_)
  refine sim_ret (LB true) hR17104 (by kernel_rfl) (by kernel_rfl) ?_
  exact ⟨rfl, hR17104.toBelow⟩
  have hq17101 := of_decide_eq_false hq17101
  refine sim_run 4 [] (hR17100.cast (by kernel_rfl)) (by kernel_rfl) trivial (fun ρ17105 w17105 hm17105 hR17105 => ?_)
  refine sim_fork 29 (decide (n > 30)) (by kernel_rfl) (fun hq17106 => ?_) (fun hq17106 => ?_)
  have hq17106 := of_decide_eq_true hq17106
  refine sim_run 8 [] (hR17105.cast (by kernel_rfl)) (by kernel_rfl) trivial (fun ρ17107 w17107 hm17107 hR17107 => ?_)
  refine sim_call 9 [] (by kernel_rfl) ?_
  refine Calls.mono (alive18_any _) ?_
  rintro e17108 w17108 ⟨rfl, hb17108⟩
  have hR17108 := hR17107.below hb17108
  refine Back.of (LB true) hR17108 rfl ?_
  refine sim_run 2 [] (hR17108.cast (by kernel_rfl)) (by kernel_rfl) trivial (fun ρ17109 w17109 hm17109 hR17109 => ?_)
  refine sim_ret (LB true) hR17109 (by kernel_rfl) (by kernel_rfl) ?_
  exact ⟨rfl, hR17109.toBelow⟩
  have hq17106 := of_decide_eq_false hq17106
  refine sim_run 5 [] (hR17105.cast (by kernel_rfl)) (by kernel_rfl) trivial (fun ρ17110 w17110 hm17110 hR17110 => ?_)
  refine sim_fork 33 (decide ((↑k : Int) > 60)) (by kernel_rfl) (fun hq17111 => ?_) (fun hq17111 => ?_)
  have hq17111 := of_decide_eq_true hq17111
  refine sim_run 3 [] (hR17110.cast (by kernel_rfl)) (by kernel_rfl) trivial (fun ρ17112 w17112 hm17112 hR17112 => ?_)
  refine sim_call 9 [] (by kernel_rfl) ?_
  refine Calls.mono (alive18_any _) ?_
  rintro e17113 w17113 ⟨rfl, hb17113⟩
  have hR17113 := hR17112.below hb17113
  refine Back.of (LB true) hR17113 rfl ?_
  refine sim_run 2 [] (hR17113.cast (by kernel_rfl)) (by kernel_rfl) trivial (fun ρ17114 w17114 hm17114 hR17114 => ?_)
  refine sim_ret (LB true) hR17114 (by kernel_rfl) (by kernel_rfl) ?_
  exact ⟨rfl, hR17114.toBelow⟩
  have hq17111 := of_decide_eq_false hq17111
  refine sim_run 4 [] (hR17110.cast (by kernel_rfl)) (by kernel_rfl) trivial (fun ρ17115 w17115 hm17115 hR17115 => ?_)
  
  obtain ⟨N, rfl⟩ : ∃ N : Nat, n = N := ⟨n.toNat, by omega⟩
  have hN : N ≤ 1000 := by omega
  have hk60 : k ≤ 60 := by omega
  have hR3 := (by assumption : Rel _ _ _ _ _).cast (rs' := []) (by kernel_rfl)
  refine sim_to (regK Try.f4 3) (tmplJ Try.f4.ntmps 0 [(0, LI (N : Int)), (1, .v (.slice A k c))]) [] (by kernel_rfl) (by kernel_rfl) (by kernel_rfl) (fun d3 => ?_)
  refine sim_run 1 [] (hR3.cast (by kernel_rfl)) (by kernel_rfl) trivial (fun ρ17200 w17200 hm17200 hR17200 => ?_)
  refine sim_call 10 [LI ((↑N : Int))] (by kernel_rfl) ?_
  refine Calls.mono (newG_any (N) (hN) _) ?_
  rintro e17201 w17201 ⟨⟨b, pb, pg, Ap, cp, L, cl⟩, rfl, hg17201, hge17201, hb17201⟩
  refine Back.gr 0 (by kernel_rfl) hg17201 hge17201 (hR17200) hb17201 (by kernel_rfl) (fun ρ17201 e0 hm17201 hR17201 hs => ?_)
  have hT0 := fun x hx => Or.inr (a := x ∈ ([] : List Nat)) (Nat.le_trans (hR17200).keeps.size (hge17201 x hx))
  have hag := hR17201.ag_ 1 (by kernel_rfl)
  refine sim_run 8 [] (hR17201.cast (by kernel_rfl)) (by kernel_rfl) trivial (fun ρ17202 w17202 hm17202 hR17202 => ?_)
  have hs := hs.moved (hm17202.castL (by kernel_rfl))
  have hag := hag.moved (hm17202.castL (by kernel_rfl))
  
  have e0 := (hag.at_ 0 (by omega)).trans e0
  clear hag
  have hRq := (by assumption : Rel _ _ _ _ _).cast (rs' := [gR ⟨b, pb, pg, Ap, cp, L, cl⟩]) (by kernel_rfl)
  have hs := hs.castR (rs' := [gR ⟨b, pb, pg, Ap, cp, L, cl⟩]) (by kernel_rfl)
  refine sim_to (regK Try.f4 4) (tmplJ Try.f4.ntmps 0 [(0, LI (N : Int)), (1, .v (.slice A k c)), (5, .ptr 0 0), (6, LI 0)]) [gR ⟨b, pb, pg, Ap, cp, L, cl⟩] (by kernel_rfl) (by kernel_rfl) (by kernel_rfl) (fun d4 => ?_)
  have hag := hRq.ag_ 1 (by kernel_rfl)
  refine sim_run 1 [] (hRq.cast (by kernel_rfl)) (by kernel_rfl) trivial (fun ρ17300 w17300 hm17300 hR17300 => ?_)
  have hs := hs.moved (hm17300.castL (by kernel_rfl))
  have hag := hag.moved (hm17300.castL (by kernel_rfl))
  refine sim_call 10 [LI ((↑N : Int))] (by kernel_rfl) ?_
  refine Calls.mono (newG_any (N) (hN) _) ?_
  rintro e17301 w17301 ⟨⟨b2, pb2, pgx, Apx, cpx, Lx, clx⟩, rfl, hg17301, hge17301, hb17301⟩
  have hdis : ∀ y, (GrP.mk b2 pb2 pgx Apx cpx Lx clx).has y → ¬ (GrP.mk b pb pg Ap cp L cl).has y := fun y h1 h2 => Nat.not_le_of_lt (hs.lt y h2) (hge17301 y h1)
  refine Back.gr 1 (by kernel_rfl) hg17301 hge17301 (hR17300) hb17301 (by kernel_rfl) (fun ρ17301 e1 hm17301 hR17301 hs2 => ?_)
  have hs := (hs.below hb17301).moved hm17301
  have hag := hag.moved hm17301
  have hT2 := fun x hx => Or.inr (a := x ∈ ([] : List Nat)) (Nat.le_trans (hR17300).keeps.size (hge17301 x hx))
  have hagx := hR17301.ag_ 2 (by kernel_rfl)
  refine sim_run 36 [] (hR17301.cast (by kernel_rfl)) (by kernel_rfl) trivial (fun ρ17302 w17302 hm17302 hR17302 => ?_)
  have hs2 := hs2.moved (hm17302.castL (by kernel_rfl))
  have hs := hs.moved (hm17302.castL (by kernel_rfl))
  have hag := hag.moved (hm17302.castL (by kernel_rfl))
  have hagx := hagx.moved (hm17302.castL (by kernel_rfl))
  
  have e0 := (hag.at_ 0 (by omega)).trans e0
  have e1 := (hagx.at_ 1 (by omega)).trans e1
  have hGI : GInv (Uf.fresh N) [] := GInv.fresh hN
  refine sim_loop (ι := Nat × Bool × GrP × List Nat × List Lk) (T := []) (w0 := w) (0, true, ⟨b, pb, pg, Ap, cp, L, cl⟩, Uf.fresh N, []) [0, 1, 5, 7] (fun x => [(9, LB x.2.1), (10, LI x.1)]) (fun _ => [gR ⟨b, pb, pg, Ap, cp, L, cl⟩, gR ⟨b2, pb2, pgx, Apx, cpx, Lx, clx⟩]) (fun x w1 => x.1 ≤ k ∧ x.2.2.1.b = b ∧ x.2.2.1.pb = pb ∧ Sta x.2.2.1.has (GrV x.2.2.1 x.2.2.2.1 x.2.2.2.2) ρ17302 [gR ⟨b, pb, pg, Ap, cp, L, cl⟩, gR ⟨b2, pb2, pgx, Apx, cpx, Lx, clx⟩] w1 ∧ Sta (GrP.mk b2 pb2 pgx Apx cpx Lx clx).has (GrV (GrP.mk b2 pb2 pgx Apx cpx Lx clx) (Uf.fresh N) []) ρ17302 [gR ⟨b, pb, pg, Ap, cp, L, cl⟩, gR ⟨b2, pb2, pgx, Apx, cpx, Lx, clx⟩] w1 ∧ GInv x.2.2.2.1 x.2.2.2.2 ∧ x.2.2.2.1.length = N ∧ (∀ y, x.2.2.1.has y → y ∈ ([] : List Nat) ∨ w.heap.size ≤ y) ∧ (∀ y, (GrP.mk b2 pb2 pgx Apx cpx Lx clx).has y → ¬ x.2.2.1.has y) ∧ (x.2.1 = true → OneI N (l.take x.1) x.2.2.2.1 x.2.2.2.2)) (fun x => k - x.1) (by kernel_rfl) (by kernel_rfl) ((by assumption : Rel _ _ _ _ _).cast (by kernel_rfl)) ⟨Nat.zero_le _, rfl, rfl, hs.castR (by kernel_rfl), hs2.castR (by kernel_rfl), hGI, Uf.fresh_length N, hT0, hdis, fun _ => OneI.nil N⟩ ?_
  iterate 8 (try clear hs)
  iterate 8 (try clear hs2)
  iterate 8 (try clear hag)
  iterate 8 (try clear hagx)
  iterate 8 (try clear hT0)
  iterate 8 (try clear hdis)
  rintro ⟨i, ok, ⟨b1, pb1, pg1, A1, c1, L1, cl1⟩, u, ls⟩ d w2 hR2 ⟨hi, hb1, hpb1, hs, hs2, hGI, hul, hT0, hdis, hone⟩
  dsimp only at hi hb1 hpb1 hs hs2 hGI hT0 hul hdis hone
  subst hb1 hpb1
  have hag := hR2.ag_ 2 (by kernel_rfl)
  by_cases hlt : i < k
  · obtain ⟨x, hx⟩ : ∃ x, l[i]? = some x := ⟨_, List.getElem?_eq_getElem (by omega)⟩
    refine sim_see x.cells i 2 (by kernel_rfl) (by rw [List.getElem?_map, hx]; rfl) hl.rd (lk_in l) (by omega) hlt (Nat.le_refl _) (by simp) hR2 (by kernel_rfl) (fun ga oa ρE eA hgT hgl hmE eE hRE => ?_)
    subst eA
    have hs := hs.moved hmE
    have hs2 := hs2.moved hmE
    have hag := hag.moved hmE
    have hag3 := hRE.ag_ 3 (by kernel_rfl)
    refine sim_run 8 [] (hRE.cast (by kernel_rfl)) (by kernel_rfl) trivial (fun ρ17400 w17400 hm17400 hR17400 => ?_)
    have hs := hs.moved (hm17400.castL (by kernel_rfl))
    have hs2 := hs2.moved (hm17400.castL (by kernel_rfl))
    have hag := hag.moved (hm17400.castL (by kernel_rfl))
    have hag3 := hag3.moved (hm17400.castL (by kernel_rfl))
    refine sim_know 62 (decide ((↑(i, ok, GrP.mk b1 pb1 pg1 A1 c1 L1 cl1, u, ls).fst : Int) < (↑k : Int))) true (by kernel_rfl) (decide_eq_true (by omega)) ?_
    refine sim_run 7 [] (hR17400.cast (by kernel_rfl)) (by kernel_rfl) trivial (fun ρ17401 w17401 hm17401 hR17401 => ?_)
    have hs := hs.moved (hm17401.castL (by kernel_rfl))
    have hs2 := hs2.moved (hm17401.castL (by kernel_rfl))
    have hag := hag.moved (hm17401.castL (by kernel_rfl))
    have hag3 := hag3.moved (hm17401.castL (by kernel_rfl))
    refine sim_call 16 [.ptr 0 0] (by kernel_rfl) ?_
    have ez0_17402 := (hag.at_ 0 (by omega)).trans e0
    simp only [denL, LV.den, Nm.at_, ez0_17402, Nat.add_zero]
    refine Calls.mono (orderG_any (⟨b1, pb1, pg1, A1, c1, L1, cl1⟩) (u) (ls) _ (hs.is) (hGI)) ?_
    rintro e17402 w17402 ⟨Lw, cw, rfl, hr17402, hb17402⟩
    have hR17402 := (hR17401).below hb17402
    have hs := hs.below hb17402
    have hs2 := hs2.below hb17402
    refine Back.of (.v (.slice Lw (Uf.orderM u ls).length cw)) hR17402 rfl ?_
    refine sim_run 7 [] (hR17402.cast (by kernel_rfl)) (by kernel_rfl) trivial (fun ρ17403 w17403 hm17403 hR17403 => ?_)
    have hag := hag.moved (hm17403.castL (by kernel_rfl))
    have hag3 := hag3.moved (hm17403.castL (by kernel_rfl))
    have hs := hs.moved (hm17403.castL (by kernel_rfl))
    have hs2 := hs2.moved (hm17403.castL (by kernel_rfl))
    refine sim_place (.v (.slice (some ⟨ga, oa, none⟩) k c)) k 3 i 2 0 (by kernel_rfl) (by omega) (by omega) rfl (by simp only [Nm.at_, hag3.at_ 2 (by omega), eE, Nat.add_zero, Int.toNat_natCast]) ?_
    refine sim_run 2 [] (hR17403.cast (by kernel_rfl)) (by kernel_rfl) trivial (fun ρ17405 w17405 hm17405 hR17405 => ?_)
    have hag := hag.moved (hm17405.castL (by kernel_rfl))
    have hag3 := hag3.moved (hm17405.castL (by kernel_rfl))
    have hs := hs.moved (hm17405.castL (by kernel_rfl))
    have hs2 := hs2.moved (hm17405.castL (by kernel_rfl))
    
    refine sim_call 11 [.ptr 0 0, .slc 3 0 1 1] (by kernel_rfl) ?_
    have ezT := (hag.at_ 0 (by omega)).trans e0
    have ez1 := (hag.at_ 1 (by omega)).trans e1
    simp only [denL, LV.den, Nm.at_, ezT, Nat.add_zero]
    have hRT := (by assumption : Rel _ _ _ _ _)
    have a1T := hs.is
    have a2T := Rel.reads hRT (n := 3) (size := 3) (m := 1) (vs := lkV [x]) (b := true) (by kernel_rfl) rfl
    have a3T := hs.farA (n := 3) (r := ⟨(lkV [x]).map .v, true⟩) (by kernel_rfl) rfl
    have a4T := ord_add _ u ls x _ _ a1T hGI a2T (a3T _)
    have ez2 := (hag3.at_ 2 (by omega)).trans eE
    have hl2 := hs2.lt
    refine Calls.mono a4T ?_
    rintro eT wT ⟨rfl, pg2, A2', cp2, L2, cl2, hgT, hkT, hhT⟩
    have hRq := hRT.afterG hs hkT hgT rfl rfl hT0 0 (by kernel_rfl) ezT [0, 1, 2] (by kernel_rfl) (fun k hk hne hq => by
      have hk2 : k = 1 ∨ k = 2 := by simp at hk; omega
      rcases hk2 with rfl | rfl
      · rw [ez1] at hq
        exact hdis _ (.inl rfl) hq
      · rw [ez2] at hq
        exact (hT0 _ hq).elim (by simp) (fun h => by have h2 : w.heap.size ≤ ga := h; omega))
    have hs2 := hs2.kept hkT hdis
    have hsN := hs.afterG hRT hgT hhT
    have hTN := hT_new hRT hT0 hhT
    have hdN : ∀ y, (GrP.mk b2 pb2 pgx Apx cpx Lx clx).has y → ¬ (GrP.mk b1 pb1 pg2 A2' cp2 L2 cl2).has y := fun y h1 h2 => (hhT y h2).elim (hdis y h1) (fun h => Nat.not_le_of_lt (hl2 y h1) h)
    clear hs hT0 hdis a1T a2T a3T a4T hRT hl2
    have hs := hsN
    have hT0 := hTN
    have hdis := hdN
    clear hsN hTN hdN
    have hGI2 := hGI.addM [x]
    refine Back.of (LI (tryM u ls [x])) hRq rfl ?_
    by_cases ht : tryM u ls [x] = 0
    · have hone2 : ok = true → OneI N (l.take (i + 1)) (addU u ls [x]) (addL u ls [x]) := fun h => by
        rw [take_snocL hx]
        exact (hone h).snoc hul ht
      refine sim_run 2 [] (hRq.cast (by kernel_rfl)) (by kernel_rfl) trivial (fun ρ17500 w17500 hm17500 hR17500 => ?_)
      have hag := hag.moved (hm17500.castL (by kernel_rfl))
      have hag3 := hag3.moved (hm17500.castL (by kernel_rfl))
      have hs2 := hs2.moved (hm17500.castL (by kernel_rfl))
      have hs := hs.moved (hm17500.castL (by kernel_rfl))
      refine sim_know 74 (tryM u ls [x] != 0) false (by kernel_rfl) (bne_eq_false_iff_eq.2 ht) ?_
      refine sim_run 8 [⟨10, 1, LI (IntKind.i64.wrap ((↑i : Int) + 1)), LI ((↑i : Int) + 1)⟩] (hR17500.cast (by kernel_rfl)) (by kernel_rfl) ⟨eqi (IntWalk.i64_in _ (by omega)), trivial⟩ (fun ρ17501 w17501 hm17501 hR17501 => ?_)
      have hag := hag.moved (hm17501.castL (by kernel_rfl))
      have hag3 := hag3.moved (hm17501.castL (by kernel_rfl))
      have hs2 := hs2.moved (hm17501.castL (by kernel_rfl))
      have hs := hs.moved (hm17501.castL (by kernel_rfl))
      
      exact sim_again (i + 1, ok, ⟨b1, pb1, pg2, A2', cp2, L2, cl2⟩, addU u ls [x], addL u ls [x]) (by kernel_rfl) (by show k - (i + 1) < k - i; omega) (by kernel_rfl) (by kernel_rfl) (by kernel_rfl) hag.ag (Rel.cast (by assumption) (by kernel_rfl)) (by kernel_rfl) (by kernel_rfl) ⟨hlt, rfl, rfl, hs.cut hag rfl (by kernel_rfl), hs2.cut hag rfl (by kernel_rfl), hGI2, (addU_len u ls [x]).trans hul, hT0, hdis, hone2⟩
    · have eL : addL u ls [x] = ls := by unfold addL; rw [if_neg ht]
      have eU : addU u ls [x] = u := by unfold addU; rw [if_neg ht]
      refine sim_run 2 [] (hRq.cast (by kernel_rfl)) (by kernel_rfl) trivial (fun ρ17600 w17600 hm17600 hR17600 => ?_)
      have hag := hag.moved (hm17600.castL (by kernel_rfl))
      have hag3 := hag3.moved (hm17600.castL (by kernel_rfl))
      have hs2 := hs2.moved (hm17600.castL (by kernel_rfl))
      have hs := hs.moved (hm17600.castL (by kernel_rfl))
      refine sim_know 74 (tryM u ls [x] != 0) true (by kernel_rfl) (bne_iff_ne.2 ht) ?_
      refine sim_run 8 [] (hR17600.cast (by kernel_rfl)) (by kernel_rfl) trivial (fun ρ17601 w17601 hm17601 hR17601 => ?_)
      have hag := hag.moved (hm17601.castL (by kernel_rfl))
      have hag3 := hag3.moved (hm17601.castL (by kernel_rfl))
      have hs2 := hs2.moved (hm17601.castL (by kernel_rfl))
      have hs := hs.moved (hm17601.castL (by kernel_rfl))
      refine sim_call 16 [.ptr 0 0] (by kernel_rfl) ?_
      have ez0_17602 := (hag.at_ 0 (by omega)).trans e0
      simp only [denL, LV.den, Nm.at_, ez0_17602, Nat.add_zero]
      refine Calls.mono (orderG_any (⟨b1, pb1, pg2, A2', cp2, L2, cl2⟩) (addU u ls [x]) (addL u ls [x]) _ (hs.is) (hGI2)) ?_
      rintro e17602 w17602 ⟨Ln, cn, rfl, hr17602, hb17602⟩
      have hR17602 := (hR17601).below hb17602
      have hs2 := hs2.below hb17602
      have hs := hs.below hb17602
      refine Back.of (.v (.slice Ln (Uf.orderM (addU u ls [x]) (addL u ls [x])).length cn)) hR17602 rfl ?_
      refine sim_run 10 [] (hR17602.cast (by kernel_rfl)) (by kernel_rfl) trivial (fun ρ17603 w17603 hm17603 hR17603 => ?_)
      have hag := hag.moved (hm17603.castL (by kernel_rfl))
      have hag3 := hag3.moved (hm17603.castL (by kernel_rfl))
      have hs2 := hs2.moved (hm17603.castL (by kernel_rfl))
      have hs := hs.moved (hm17603.castL (by kernel_rfl))
      refine sim_know 81 ((↑(Uf.orderM u ls).length : Int) != (↑(Uf.orderM (addU u ls [x]) (addL u ls [x])).length : Int)) false (by kernel_rfl) (by rw [eL, eU]; exact bne_self_eq_false _) ?_
      refine sim_run 8 [⟨10, 1, LI (IntKind.i64.wrap ((↑i : Int) + 1)), LI ((↑i : Int) + 1)⟩] (hR17603.cast (by kernel_rfl)) (by kernel_rfl) ⟨eqi (IntWalk.i64_in _ (by omega)), trivial⟩ (fun ρ17604 w17604 hm17604 hR17604 => ?_)
      have hag := hag.moved (hm17604.castL (by kernel_rfl))
      have hag3 := hag3.moved (hm17604.castL (by kernel_rfl))
      have hs2 := hs2.moved (hm17604.castL (by kernel_rfl))
      have hs := hs.moved (hm17604.castL (by kernel_rfl))
      
      exact sim_again (i + 1, false, ⟨b1, pb1, pg2, A2', cp2, L2, cl2⟩, addU u ls [x], addL u ls [x]) (by kernel_rfl) (by show k - (i + 1) < k - i; omega) (by kernel_rfl) (by kernel_rfl) (by kernel_rfl) hag.ag (Rel.cast (by assumption) (by kernel_rfl)) (by kernel_rfl) (by kernel_rfl) ⟨hlt, rfl, rfl, hs.cut hag rfl (by kernel_rfl), hs2.cut hag rfl (by kernel_rfl), hGI2, (addU_len u ls [x]).trans hul, hT0, hdis, fun h => by cases h⟩
  · refine sim_run 8 [] (hR2.cast (by kernel_rfl)) (by kernel_rfl) trivial (fun ρ17700 w17700 hm17700 hR17700 => ?_)
    have hs := hs.moved (hm17700.castL (by kernel_rfl))
    have hs2 := hs2.moved (hm17700.castL (by kernel_rfl))
    have hag := hag.moved (hm17700.castL (by kernel_rfl))
    refine sim_know 62 (decide ((↑(i, ok, GrP.mk b1 pb1 pg1 A1 c1 L1 cl1, u, ls).fst : Int) < (↑k : Int))) false (by kernel_rfl) (decide_eq_false (by omega)) ?_
    refine sim_run 1 [] (hR17700.cast (by kernel_rfl)) (by kernel_rfl) trivial (fun ρ17701 w17701 hm17701 hR17701 => ?_)
    have hs := hs.moved (hm17701.castL (by kernel_rfl))
    have hs2 := hs2.moved (hm17701.castL (by kernel_rfl))
    have hag := hag.moved (hm17701.castL (by kernel_rfl))
    refine sim_leave (by kernel_rfl) ?_
    refine sim_run 3 [] (hR17701.cast (by kernel_rfl)) (by kernel_rfl) trivial (fun ρ17702 w17702 hm17702 hR17702 => ?_)
    have hs := hs.moved (hm17702.castL (by kernel_rfl))
    have hs2 := hs2.moved (hm17702.castL (by kernel_rfl))
    have hag := hag.moved (hm17702.castL (by kernel_rfl))
    
    refine sim_to (regK Try.f4 17) (tmplJ Try.f4.ntmps 0 [(0, LI (N : Int)), (1, .v (.slice A k c)), (5, .ptr 0 0), (7, .ptr 1 0), (9, LB ok)]) [gR ⟨b1, pb1, pg1, A1, c1, L1, cl1⟩, gR ⟨b2, pb2, pgx, Apx, cpx, Lx, clx⟩] (by kernel_rfl) (by kernel_rfl) (by kernel_rfl) (fun d5 => ?_)
    exact ord_17 w _ _ u ls ok N A k c l hl hk60 hGI hul (fun h => by have := hone h; rw [List.take_of_length_le (by omega)] at this; exact this) _ _ ((by assumption : Rel _ _ _ _ _).cast (by kernel_rfl)) (hs.castR (by kernel_rfl)) (hs2.castR (by kernel_rfl)) hT2 hdis ((hag.at_ 0 (by omega)).trans e0) ((hag.at_ 1 (by omega)).trans e1) d5
end Go.Proofs.Ytnfgndapalkbcaa
