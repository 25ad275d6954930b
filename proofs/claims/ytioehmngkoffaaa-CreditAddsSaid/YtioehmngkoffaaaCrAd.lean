/-
  CreditAdds: what a party owes is what it took less what it paid back; what is pledged comes back wholly.
-/
import Derived.Test.YtioehmngkoffaaaCrAd2
namespace Go.Proofs.Ytioehmngkoffaaa
open Go Go.RowKit
attribute [local irreducible] run goO leaveK someK nextK nextT nextOT nextOD loopBody loopRest loopK fillJ tmplOf tmplJ mergeT At AtO drawOk ordOf gateOf callC callO topOp topO idxOf appOf storeOf clearOf sliceOf calleeOf calleeO topQ idxQ newRowOf resL stepOp seek
set_option maxRecDepth 100000 in
set_option maxHeartbeats 4000000 in
theorem creditAdds_walk (W : World) (A : Option Addr) (nn cc : Nat) (os : List OpC) (k : OpCs W maxLen A nn os) : Calls Try.prog 5 #[.slice A nn cc] W fun e w' => e = .returned (.bool true) ∧ Below W.heap.size W w' := by
  obtain ⟨hrd, hlen, hok, hmax⟩ := k
  refine sim_enter Try.func5 ρ0 [.v (.slice A nn cc)] [] (by kernel_rfl) rfl ?_
  have hR := Rel.start [] W ρ0
  by_cases h60 : nn ≤ 60
  · refine sim_run 11 [] (hR.cast (by kernel_rfl)) (by kernel_rfl) trivial (fun ρ100 w100 hm100 hR100 => ?_)
    refine sim_know 14 (decide ((↑nn : Int) > 60)) false (by kernel_rfl) (decide_eq_false (by omega)) ?_
    refine sim_run 4 [] (hR100.cast (by kernel_rfl)) (by kernel_rfl) trivial (fun ρ101 w101 hm101 hR101 => ?_)
    
    refine sim_call 7 [] (by kernel_rfl) ?_
    refine (newQ_any _).mono ?_
    rintro e1 w1 ⟨q, rfl, hV1, hge, hl0, hb1⟩
    have hR1 := ((by assumption : Rel _ _ _ _ _)).below hb1
    have hG := LnG.new ((by assumption : Rel _ _ _ _ _)) hV1 hge
    have hst : St q 0 0 := ⟨by omega, by omega, .inl ⟨rfl, rfl, hl0⟩⟩
    clear hl0 hge hV1
    refine Back.of (.v (.pointer (some ⟨q.b, 0, none⟩))) hR1 rfl ?_
    refine sim_run 21 [] (hR1.cast (by kernel_rfl)) (by kernel_rfl) trivial (fun ρ200 w200 hm200 hR200 => ?_)
    have hG := hG.moved (hm200.castL (by kernel_rfl))
    
    refine sim_loop (ι := Nat × LnP × Int × Int) (T := []) (w0 := W) (0, q, 0, 0) [0, 3] (fun x => [(6, LI x.1), (4, LI x.2.2.1), (5, LI x.2.2.2)]) (fun _ => []) (fun x w1 => x.1 ≤ nn ∧ x.2.2.2 ≤ 7 * (x.1 : Int) ∧ x.2.1.b = q.b ∧ St x.2.1 x.2.2.1 x.2.2.2 ∧ LnG W.heap.size x.2.1 ρ200 [] w1) (fun x => nn - x.1) (by kernel_rfl) (by kernel_rfl) (hR200.cast (by kernel_rfl)) ⟨Nat.zero_le _, by show (0 : Int) ≤ 7 * ((0 : Nat) : Int); omega, rfl, hst, hG.castR (by kernel_rfl)⟩ ?_
    iterate 6 (try clear hG)
    clear hst
    rintro ⟨i, q1, o, p⟩ d w2 hR2 ⟨hi, hpi, hbq, hst, hG⟩
    dsimp only at hi hpi hbq hst hG
    refine sim_run 3 [] (hR2.cast (by kernel_rfl)) (by kernel_rfl) trivial (fun ρ1200 w1200 hm1200 hR1200 => ?_)
    have hG := hG.moved (hm1200.castL (by kernel_rfl))
    
    refine sim_to (regK Try.f5 8) (tmplJ Try.f5.ntmps 0 [(0, .v (.slice A nn cc)), (3, .v (.pointer (some ⟨q.b, 0, none⟩))), (4, LI o), (5, LI p), (6, LI i)]) [] (by kernel_rfl) (by kernel_rfl) (by kernel_rfl) (fun d2 => ?_)
    have hR2 := ((by assumption : Rel _ _ _ _ _)).cast (rs' := []) (by kernel_rfl)
    have hG0 := hG.castR (rs' := []) (by kernel_rfl)
    iterate 8 (try clear hG)
    have hG := hG0
    clear hG0
    have ho0 := hst.o0
    have hp0 := hst.p0
    by_cases hlt : i < nn
    · obtain ⟨⟨uk, un, up, ua, uc, ur⟩, hu⟩ : ∃ u, os[i]? = some u := ⟨_, List.getElem?_eq_getElem (by omega)⟩
      have huk := hok _ (List.mem_of_getElem? hu)
      have hn64 : IsI64 un := huk.n
      refine sim_see [.int .i64 uk, .int .i64 un, .string up, .string ua, .string uc, .slice ur.A ur.n ur.c] i 0 (by kernel_rfl) (by rw [List.getElem?_map, hu]; rfl) hrd (opC_len os) (by omega) hlt (Nat.le_refl _) (by simp) hR2 (by kernel_rfl) (fun ga oa ρE eA hgT hgl hmE eE hRE => ?_)
      subst eA
      have hG := hG.moved hmE
      have hag := hRE.ag_ 1 (by kernel_rfl)
      unfold IsI64 at hn64
      by_cases h40 : un ≤ 1099511627776
      · by_cases hk2 : uk = 2
        · subst hk2
          refine sim_run 5 [] (hRE.cast (by kernel_rfl)) (by kernel_rfl) trivial (fun ρ300 w300 hm300 hR300 => ?_)
          have hG := hG.moved (hm300.castL (by kernel_rfl))
          have hag := hag.moved (hm300.castL (by kernel_rfl))
          refine sim_know 22 (decide ((↑i : Int) < (↑nn : Int))) true (by kernel_rfl) (decide_eq_true (by omega)) ?_
          refine sim_run 8 [] (hR300.cast (by kernel_rfl)) (by kernel_rfl) trivial (fun ρ301 w301 hm301 hR301 => ?_)
          have hG := hG.moved (hm301.castL (by kernel_rfl))
          have hag := hag.moved (hm301.castL (by kernel_rfl))
          refine sim_place (.v (.slice (some ⟨ga, oa, none⟩) nn cc)) nn 6 i 0 0 (by kernel_rfl) (by omega) (by omega) rfl (by simp only [Nm.at_, hag.at_ 0 (by omega), eE, Nat.add_zero, Int.toNat_natCast]) ?_
          refine sim_run 10 [] (hR301.cast (by kernel_rfl)) (by kernel_rfl) trivial (fun ρ303 w303 hm303 hR303 => ?_)
          have hG := hG.moved (hm303.castL (by kernel_rfl))
          have hag := hag.moved (hm303.castL (by kernel_rfl))
          refine sim_know 31 (decide (un > 1099511627776)) false (by kernel_rfl) (decide_eq_false (by omega)) ?_
          refine sim_run 7 [] (hR303.cast (by kernel_rfl)) (by kernel_rfl) trivial (fun ρ304 w304 hm304 hR304 => ?_)
          have hG := hG.moved (hm304.castL (by kernel_rfl))
          have hag := hag.moved (hm304.castL (by kernel_rfl))
          refine sim_place (.v (.slice (some ⟨ga, oa, none⟩) nn cc)) nn 6 i 0 0 (by kernel_rfl) (by omega) (by omega) rfl (by simp only [Nm.at_, hag.at_ 0 (by omega), eE, Nat.add_zero, Int.toNat_natCast]) ?_
          refine sim_run 9 [] (hR304.cast (by kernel_rfl)) (by kernel_rfl) trivial (fun ρ306 w306 hm306 hR306 => ?_)
          have hG := hG.moved (hm306.castL (by kernel_rfl))
          have hag := hag.moved (hm306.castL (by kernel_rfl))
          
          have hr := repay_any q1 bA bE un _ hG.sta.is (hst.ok.mono (Nat.le_refl _) (by omega)) hn64
          rw [hbq] at hr
          refine sim_call 9 [.v (.pointer (some ⟨q.b, 0, none⟩)), LS bA, LS bE, LI un] (by kernel_rfl) ?_
          refine hr.mono ?_
          rintro e6 w6 hT
          obtain ⟨hk6, n6, c6, rfl, _, hcc6⟩ := repay_St hG.sta.is hst hT
          have hR6 := hG.rel ((by assumption : Rel _ _ _ _ _)) hk6 [0] (by kernel_rfl) (fun k0 hk0 hx => by
            rw [List.mem_singleton.1 hk0, hag.at_ 0 (by omega), eE] at hx
            have h1 := hG.ge _ hx
            have h2 : ga < W.heap.size := hgl
            exact absurd h1 (Nat.not_le.2 h2))
          rcases hcc6 with ⟨h7, _, h8, h9, hsa6⟩ | ⟨h7, hsa6⟩
          · subst h7
            obtain ⟨q4, hbq4, hG6, hst6⟩ := hG.st (by assumption : Rel [] W _ _ _) (by assumption : Rel [] W _ _ _).keeps.size hsa6
            have hbq4 := hbq4.trans hbq
            clear hG hst hT hsa6 hr
            have hG := hG6
            have hst := hst6
            clear hG6 hst6
            refine Back.of (.tup [LI n6, LI 0]) hR6 rfl ?_
            refine sim_run 20 [⟨16, 2, LI (IntKind.i64.wrap (o - un)), LI (o - un)⟩] (hR6.cast (by kernel_rfl)) (by kernel_rfl) ⟨eqi (IntWalk.i64_in _ (by omega)), trivial⟩ (fun ρ800 w800 hm800 hR800 => ?_)
            have hag := hag.moved (hm800.castL (by kernel_rfl))
            have hG := hG.moved (hm800.castL (by kernel_rfl))
            
            refine sim_to (regK Try.f5 20) (tmplJ Try.f5.ntmps 0 [(0, .v (.slice (some ⟨ga, oa, none⟩) nn cc)), (3, .v (.pointer (some ⟨q.b, 0, none⟩))), (4, LI (o - un)), (5, LI p), (6, LI i)]) [] (by kernel_rfl) (by kernel_rfl) (by kernel_rfl) (fun dd => ?_)
            have hagz := ((by assumption : Rel _ _ _ _ _)).ag_ 0 (by kernel_rfl)
            refine adds_20 (q := q4) (((by assumption : Rel _ _ _ _ _)).cut (rs := []) (by kernel_rfl) hagz.ag (by kernel_rfl)) (hG.cut (rs := []) hagz rfl (by kernel_rfl)) hbq4 hst (by omega) dd (fun c9 ρ9 w9 hk9 hm9 hl9 hR9 hG9 => ?_)
            exact sim_again (i + 1, q4, (o - un), p) hk9 (by show nn - (i + 1) < nn - i; omega) ((congrArg (mergeT · c9.tmps) (by kernel_rfl)).trans hm9) ((congrArg List.length (by kernel_rfl)).trans hl9) (by kernel_rfl) Agree.zero hR9 (List.take_zero ..) (by kernel_rfl) ⟨hlt, by show p ≤ 7 * ((i + 1 : Nat) : Int); omega, hbq4, hst, hG9.cut ⟨Agree.zero, Nat.zero_le _⟩ rfl (List.take_zero ..)⟩
          · obtain ⟨q4, hbq4, hG6, hst6⟩ := hG.st (by assumption : Rel [] W _ _ _) (by assumption : Rel [] W _ _ _).keeps.size hsa6
            have hbq4 := hbq4.trans hbq
            clear hG hst hT hsa6 hr
            have hG := hG6
            have hst := hst6
            clear hG6 hst6
            refine Back.of (.tup [LI n6, LI c6]) hR6 rfl ?_
            refine sim_run 11 [] (hR6.cast (by kernel_rfl)) (by kernel_rfl) trivial (fun ρ900 w900 hm900 hR900 => ?_)
            have hag := hag.moved (hm900.castL (by kernel_rfl))
            have hG := hG.moved (hm900.castL (by kernel_rfl))
            refine sim_know 46 (c6 == 0) false (by kernel_rfl) (decide_eq_false (by omega)) ?_
            refine sim_run 4 [] (hR900.cast (by kernel_rfl)) (by kernel_rfl) trivial (fun ρ901 w901 hm901 hR901 => ?_)
            have hag := hag.moved (hm901.castL (by kernel_rfl))
            have hG := hG.moved (hm901.castL (by kernel_rfl))
            
            refine sim_to (regK Try.f5 20) (tmplJ Try.f5.ntmps 0 [(0, .v (.slice (some ⟨ga, oa, none⟩) nn cc)), (3, .v (.pointer (some ⟨q.b, 0, none⟩))), (4, LI o), (5, LI p), (6, LI i)]) [] (by kernel_rfl) (by kernel_rfl) (by kernel_rfl) (fun dd => ?_)
            have hagz := ((by assumption : Rel _ _ _ _ _)).ag_ 0 (by kernel_rfl)
            refine adds_20 (q := q4) (((by assumption : Rel _ _ _ _ _)).cut (rs := []) (by kernel_rfl) hagz.ag (by kernel_rfl)) (hG.cut (rs := []) hagz rfl (by kernel_rfl)) hbq4 hst (by omega) dd (fun c9 ρ9 w9 hk9 hm9 hl9 hR9 hG9 => ?_)
            exact sim_again (i + 1, q4, o, p) hk9 (by show nn - (i + 1) < nn - i; omega) ((congrArg (mergeT · c9.tmps) (by kernel_rfl)).trans hm9) ((congrArg List.length (by kernel_rfl)).trans hl9) (by kernel_rfl) Agree.zero hR9 (List.take_zero ..) (by kernel_rfl) ⟨hlt, by show p ≤ 7 * ((i + 1 : Nat) : Int); omega, hbq4, hst, hG9.cut ⟨Agree.zero, Nat.zero_le _⟩ rfl (List.take_zero ..)⟩
        · refine sim_run 5 [] (hRE.cast (by kernel_rfl)) (by kernel_rfl) trivial (fun ρ400 w400 hm400 hR400 => ?_)
          have hG := hG.moved (hm400.castL (by kernel_rfl))
          have hag := hag.moved (hm400.castL (by kernel_rfl))
          refine sim_know 22 (decide ((↑i : Int) < (↑nn : Int))) true (by kernel_rfl) (decide_eq_true (by omega)) ?_
          refine sim_run 8 [] (hR400.cast (by kernel_rfl)) (by kernel_rfl) trivial (fun ρ401 w401 hm401 hR401 => ?_)
          have hG := hG.moved (hm401.castL (by kernel_rfl))
          have hag := hag.moved (hm401.castL (by kernel_rfl))
          refine sim_place (.v (.slice (some ⟨ga, oa, none⟩) nn cc)) nn 6 i 0 0 (by kernel_rfl) (by omega) (by omega) rfl (by simp only [Nm.at_, hag.at_ 0 (by omega), eE, Nat.add_zero, Int.toNat_natCast]) ?_
          refine sim_run 10 [] (hR401.cast (by kernel_rfl)) (by kernel_rfl) trivial (fun ρ403 w403 hm403 hR403 => ?_)
          have hG := hG.moved (hm403.castL (by kernel_rfl))
          have hag := hag.moved (hm403.castL (by kernel_rfl))
          refine sim_know 31 (decide (un > 1099511627776)) false (by kernel_rfl) (decide_eq_false (by omega)) ?_
          refine sim_run 7 [] (hR403.cast (by kernel_rfl)) (by kernel_rfl) trivial (fun ρ404 w404 hm404 hR404 => ?_)
          have hG := hG.moved (hm404.castL (by kernel_rfl))
          have hag := hag.moved (hm404.castL (by kernel_rfl))
          refine sim_place (.v (.slice (some ⟨ga, oa, none⟩) nn cc)) nn 6 i 0 0 (by kernel_rfl) (by omega) (by omega) rfl (by simp only [Nm.at_, hag.at_ 0 (by omega), eE, Nat.add_zero, Int.toNat_natCast]) ?_
          refine sim_run 4 [] (hR404.cast (by kernel_rfl)) (by kernel_rfl) trivial (fun ρ406 w406 hm406 hR406 => ?_)
          have hG := hG.moved (hm406.castL (by kernel_rfl))
          have hag := hag.moved (hm406.castL (by kernel_rfl))
          refine sim_know 38 (uk == 2) false (by kernel_rfl) (decide_eq_false (by omega)) ?_
          refine sim_run 8 [] (hR406.cast (by kernel_rfl)) (by kernel_rfl) trivial (fun ρ407 w407 hm407 hR407 => ?_)
          have hG := hG.moved (hm407.castL (by kernel_rfl))
          have hag := hag.moved (hm407.castL (by kernel_rfl))
          
          have ht := take_any q1 bP bA bE un _ 1 1 _ [⟨bX, 7⟩] _ hG.sta.is hst.ok (by rw [hst.used]; omega) hn64 (((by assumption : Rel _ _ _ _ _)).readsP (n := 1) (size := 2) (m := 1) (vs := [.string bX, .int .i64 7]) (b := true) (by kernel_rfl) rfl) rfl (Nat.le_refl _) (by omega) (by decide) (by decide) (by decide) (fun x hx => by rw [List.mem_singleton.1 hx]; exact ⟨by show IsI64 ((7 : Nat) : Int); unfold IsI64; omega, by decide⟩) (fun a ha => by injection ha with ha; rw [← ha]; exact ((by assumption : Rel _ _ _ _ _)).lt 1 ⟨[LS bX, LI 7], true⟩ (by kernel_rfl))
          rw [hbq] at ht
          refine sim_call 11 [.v (.pointer (some ⟨q.b, 0, none⟩)), LS bP, .agg [LS bA, LS bE, LI un, .slc 1 0 1 1]] (by kernel_rfl) ?_
          refine ht.mono ?_
          rintro e6 w6 hT
          obtain ⟨hk6, c6, rfl, _, hcc6⟩ := take_St hG.sta.is hst (by omega) (by omega) hT
          have hR6 := hG.rel ((by assumption : Rel _ _ _ _ _)) hk6 [0] (by kernel_rfl) (fun k0 hk0 hx => by
            rw [List.mem_singleton.1 hk0, hag.at_ 0 (by omega), eE] at hx
            have h1 := hG.ge _ hx
            have h2 : ga < W.heap.size := hgl
            exact absurd h1 (Nat.not_le.2 h2))
          rcases hcc6 with ⟨h7, h8, hsa6⟩ | ⟨h7, hsa6⟩
          · subst h7
            obtain ⟨q4, hbq4, hG6, hst6⟩ := hG.st (by assumption : Rel [] W _ _ _) (by assumption : Rel [] W _ _ _).keeps.size hsa6
            have hbq4 := hbq4.trans hbq
            clear hG hst hT hsa6 ht
            have hG := hG6
            have hst := hst6
            have ho1 := hst.o0
            clear hG6 hst6
            refine Back.of (LI 0) hR6 rfl ?_
            refine sim_run 17 [⟨18, 2, LI (IntKind.i64.wrap (o + un)), LI (o + un)⟩, ⟨19, 1, LI (IntKind.i64.wrap (p + 7)), LI (p + 7)⟩] (hR6.cast (by kernel_rfl)) (by kernel_rfl) ⟨eqi (IntWalk.i64_in _ (by omega)), eqi (IntWalk.i64_in _ (by omega)), trivial⟩ (fun ρ1000 w1000 hm1000 hR1000 => ?_)
            have hag := hag.moved (hm1000.castL (by kernel_rfl))
            have hG := hG.moved (hm1000.castL (by kernel_rfl))
            
            refine sim_to (regK Try.f5 20) (tmplJ Try.f5.ntmps 0 [(0, .v (.slice (some ⟨ga, oa, none⟩) nn cc)), (3, .v (.pointer (some ⟨q.b, 0, none⟩))), (4, LI (o + un)), (5, LI (p + 7)), (6, LI i)]) [] (by kernel_rfl) (by kernel_rfl) (by kernel_rfl) (fun dd => ?_)
            have hagz := ((by assumption : Rel _ _ _ _ _)).ag_ 0 (by kernel_rfl)
            refine adds_20 (q := q4) (((by assumption : Rel _ _ _ _ _)).cut (rs := []) (by kernel_rfl) hagz.ag (by kernel_rfl)) (hG.cut (rs := []) hagz rfl (by kernel_rfl)) hbq4 hst (by omega) dd (fun c9 ρ9 w9 hk9 hm9 hl9 hR9 hG9 => ?_)
            exact sim_again (i + 1, q4, (o + un), (p + 7)) hk9 (by show nn - (i + 1) < nn - i; omega) ((congrArg (mergeT · c9.tmps) (by kernel_rfl)).trans hm9) ((congrArg List.length (by kernel_rfl)).trans hl9) (by kernel_rfl) Agree.zero hR9 (List.take_zero ..) (by kernel_rfl) ⟨hlt, by show (p + 7) ≤ 7 * ((i + 1 : Nat) : Int); omega, hbq4, hst, hG9.cut ⟨Agree.zero, Nat.zero_le _⟩ rfl (List.take_zero ..)⟩
          · obtain ⟨q4, hbq4, hG6, hst6⟩ := hG.st (by assumption : Rel [] W _ _ _) (by assumption : Rel [] W _ _ _).keeps.size hsa6
            have hbq4 := hbq4.trans hbq
            clear hG hst hT hsa6 ht
            have hG := hG6
            have hst := hst6
            clear hG6 hst6
            refine Back.of (LI c6) hR6 rfl ?_
            refine sim_run 2 [] (hR6.cast (by kernel_rfl)) (by kernel_rfl) trivial (fun ρ1100 w1100 hm1100 hR1100 => ?_)
            have hag := hag.moved (hm1100.castL (by kernel_rfl))
            have hG := hG.moved (hm1100.castL (by kernel_rfl))
            refine sim_know 56 (c6 == 0) false (by kernel_rfl) (decide_eq_false (by omega)) ?_
            refine sim_run 4 [] (hR1100.cast (by kernel_rfl)) (by kernel_rfl) trivial (fun ρ1101 w1101 hm1101 hR1101 => ?_)
            have hag := hag.moved (hm1101.castL (by kernel_rfl))
            have hG := hG.moved (hm1101.castL (by kernel_rfl))
            
            refine sim_to (regK Try.f5 20) (tmplJ Try.f5.ntmps 0 [(0, .v (.slice (some ⟨ga, oa, none⟩) nn cc)), (3, .v (.pointer (some ⟨q.b, 0, none⟩))), (4, LI o), (5, LI p), (6, LI i)]) [] (by kernel_rfl) (by kernel_rfl) (by kernel_rfl) (fun dd => ?_)
            have hagz := ((by assumption : Rel _ _ _ _ _)).ag_ 0 (by kernel_rfl)
            refine adds_20 (q := q4) (((by assumption : Rel _ _ _ _ _)).cut (rs := []) (by kernel_rfl) hagz.ag (by kernel_rfl)) (hG.cut (rs := []) hagz rfl (by kernel_rfl)) hbq4 hst (by omega) dd (fun c9 ρ9 w9 hk9 hm9 hl9 hR9 hG9 => ?_)
            exact sim_again (i + 1, q4, o, p) hk9 (by show nn - (i + 1) < nn - i; omega) ((congrArg (mergeT · c9.tmps) (by kernel_rfl)).trans hm9) ((congrArg List.length (by kernel_rfl)).trans hl9) (by kernel_rfl) Agree.zero hR9 (List.take_zero ..) (by kernel_rfl) ⟨hlt, by show p ≤ 7 * ((i + 1 : Nat) : Int); omega, hbq4, hst, hG9.cut ⟨Agree.zero, Nat.zero_le _⟩ rfl (List.take_zero ..)⟩
      · clear hG
        refine sim_run 5 [] (hRE.cast (by kernel_rfl)) (by kernel_rfl) trivial (fun ρ500 w500 hm500 hR500 => ?_)
        have hag := hag.moved (hm500.castL (by kernel_rfl))
        refine sim_know 22 (decide ((↑i : Int) < (↑nn : Int))) true (by kernel_rfl) (decide_eq_true (by omega)) ?_
        refine sim_run 8 [] (hR500.cast (by kernel_rfl)) (by kernel_rfl) trivial (fun ρ501 w501 hm501 hR501 => ?_)
        have hag := hag.moved (hm501.castL (by kernel_rfl))
        refine sim_place (.v (.slice (some ⟨ga, oa, none⟩) nn cc)) nn 6 i 0 0 (by kernel_rfl) (by omega) (by omega) rfl (by simp only [Nm.at_, hag.at_ 0 (by omega), eE, Nat.add_zero, Int.toNat_natCast]) ?_
        refine sim_run 10 [] (hR501.cast (by kernel_rfl)) (by kernel_rfl) trivial (fun ρ503 w503 hm503 hR503 => ?_)
        have hag := hag.moved (hm503.castL (by kernel_rfl))
        refine sim_know 31 (decide (un > 1099511627776)) true (by kernel_rfl) (decide_eq_true (by omega)) ?_
        refine sim_run 3 [] (hR503.cast (by kernel_rfl)) (by kernel_rfl) trivial (fun ρ504 w504 hm504 hR504 => ?_)
        have hag := hag.moved (hm504.castL (by kernel_rfl))
        refine sim_call 6 [] (by kernel_rfl) ?_
        refine Calls.mono (alive21_any _) ?_
        rintro e505 w505 ⟨rfl, hb505⟩
        have hR505 := hR504.below hb505
        refine Back.of (LB true) hR505 rfl ?_
        refine sim_run 2 [] (hR505.cast (by kernel_rfl)) (by kernel_rfl) trivial (fun ρ506 w506 hm506 hR506 => ?_)
        have hag := hag.moved (hm506.castL (by kernel_rfl))
        refine sim_ret (LB true) hR506 (by kernel_rfl) (by kernel_rfl) ?_
        exact ⟨rfl, hR506.toBelow⟩
        
    · refine sim_run 5 [] (hR2.cast (by kernel_rfl)) (by kernel_rfl) trivial (fun ρ600 w600 hm600 hR600 => ?_)
      have hG := hG.moved (hm600.castL (by kernel_rfl))
      refine sim_know 22 (decide ((↑i : Int) < (↑nn : Int))) false (by kernel_rfl) (decide_eq_false (by omega)) ?_
      refine sim_run 1 [] (hR600.cast (by kernel_rfl)) (by kernel_rfl) trivial (fun ρ601 w601 hm601 hR601 => ?_)
      have hG := hG.moved (hm601.castL (by kernel_rfl))
      refine sim_leave (by kernel_rfl) ?_
      refine sim_run 2 [] (hR601.cast (by kernel_rfl)) (by kernel_rfl) trivial (fun ρ602 w602 hm602 hR602 => ?_)
      have hG := hG.moved (hm602.castL (by kernel_rfl))
      
      refine sim_to (regK Try.f5 22) (tmplJ Try.f5.ntmps 0 [(3, .v (.pointer (some ⟨q.b, 0, none⟩))), (4, LI o), (5, LI p)]) [] (by kernel_rfl) (by kernel_rfl) (by kernel_rfl) (fun dd => ?_)
      exact adds_22 W q1 q.b o p _ _ (((by assumption : Rel _ _ _ _ _)).cast (by kernel_rfl)) (hG.castR (by kernel_rfl)) hbq hst dd
  · refine sim_run 11 [] (hR.cast (by kernel_rfl)) (by kernel_rfl) trivial (fun ρ700 w700 hm700 hR700 => ?_)
    refine sim_know 14 (decide ((↑nn : Int) > 60)) true (by kernel_rfl) (decide_eq_true (by omega)) ?_
    refine sim_run 3 [] (hR700.cast (by kernel_rfl)) (by kernel_rfl) trivial (fun ρ701 w701 hm701 hR701 => ?_)
    refine sim_call 6 [] (by kernel_rfl) ?_
    refine Calls.mono (alive21_any _) ?_
    rintro e702 w702 ⟨rfl, hb702⟩
    have hR702 := hR701.below hb702
    refine Back.of (LB true) hR702 rfl ?_
    refine sim_run 2 [] (hR702.cast (by kernel_rfl)) (by kernel_rfl) trivial (fun ρ703 w703 hm703 hR703 => ?_)
    refine sim_ret (LB true) hR703 (by kernel_rfl) (by kernel_rfl) ?_
    exact ⟨rfl, hR703.toBelow⟩
    
end Go.Proofs.Ytioehmngkoffaaa
