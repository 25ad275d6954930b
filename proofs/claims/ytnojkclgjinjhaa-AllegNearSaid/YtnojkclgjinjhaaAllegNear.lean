/-
  What is near is the party's own, pending, and none of its own differs in fewer things; what differs is what match tells: for every party and every list of instructions.
-/
import Derived.Test.YtnojkclgjinjhaaAllegNear3
namespace Go.Proofs.Ytnojkclgjinjhaa
open Go Go.RowKit
attribute [local irreducible] run goO leaveK someK nextK nextT nextOT nextOD loopBody loopRest loopK fillJ tmplOf tmplJ mergeT At AtO drawOk ordOf gateOf callC callO topOp topO idxOf appOf storeOf clearOf sliceOf calleeOf calleeO topQ idxQ newRowOf resL stepOp seek
set_option maxRecDepth 100000 in
set_option maxHeartbeats 4000000 in
theorem allegNear_walk (w : World) (party : ByteArray) (A : Option Addr) (n cp : Nat) (l : List In) (h : Reads w w.heap.size 21 A n (insts l)) (hok : ∀ x ∈ l, x.ok) (hA : A = none → n = 0 ∧ cp = 0) (hmax : n ≤ maxLen) : Calls Try.prog 3 #[.string party, .slice A n cp] w fun e w' => e = .returned (.bool true) ∧ Below w.heap.size w w' := by
  unfold maxLen at hmax
  have hll := h.insts_len
  have hrd : Reads w w.heap.size 21 A n (l.map In.cells).flatten := by rw [← insts_flat2]; exact h
  refine sim_enter Try.func3 ρ0 [LS party, .v (.slice A n cp)] [] (by kernel_rfl) rfl ?_
  have hR := Rel.start [] w ρ0
  refine sim_run 11 [] (hR.cast (by kernel_rfl)) (by kernel_rfl) trivial (fun ρ100 w100 hm100 hR100 => ?_)
  refine sim_fork 16 (decide ((↑n : Int) > 30)) (by kernel_rfl) (fun hq101 => ?_) (fun hq101 => ?_)
  have hq101 := of_decide_eq_true hq101
  refine sim_run 3 [] (hR100.cast (by kernel_rfl)) (by kernel_rfl) trivial (fun ρ102 w102 hm102 hR102 => ?_)
  refine sim_call 6 [] (by kernel_rfl) ?_
  refine Calls.mono (alive16_any _) ?_
  rintro e103 w103 ⟨rfl, hb103⟩
  have hR103 := hR102.below hb103
  refine Back.of (LB true) hR103 rfl ?_
  refine sim_run 2 [] (hR103.cast (by kernel_rfl)) (by kernel_rfl) trivial (fun ρ104 w104 hm104 hR104 => ?_)
  refine sim_ret (LB true) hR104 (by kernel_rfl) (by kernel_rfl) ?_
  exact ⟨rfl, hR104.toBelow⟩
  have hq101 := of_decide_eq_false hq101
  refine sim_run 8 [] (hR100.cast (by kernel_rfl)) (by kernel_rfl) trivial (fun ρ105 w105 hm105 hR105 => ?_)
  
  refine sim_loop (ι := Nat) (T := []) (w0 := w) 0 [0, 1] (fun i => [(5, LI i)]) (fun _ => []) (fun i _ => i ≤ n ∧ IdsOk l i) (fun i => n - i) (by kernel_rfl) (by kernel_rfl) ((by assumption : Rel _ _ _ _ _).none0) ⟨Nat.zero_le _, fun a b x y _ hb => absurd hb (Nat.not_lt_zero _)⟩ ?_
  have hn30 : n ≤ 30 := by omega
  rintro i d w2 hR2 ⟨hi, hids⟩
  by_cases hlt : i < n
  · obtain ⟨y, hy⟩ : ∃ y, l[i]? = some y := ⟨_, List.getElem?_eq_getElem (by omega)⟩
    refine sim_see (n := n) y.cells i 0 (by kernel_rfl) (by rw [List.getElem?_map, hy]; rfl) hrd (in_len2 l) (by omega) hlt (Nat.le_refl _) (by simp) hR2 (by kernel_rfl) (fun ga oa ρE eA hgT hgl hmE e0 hRE => ?_)
    subst eA
    have hag := hRE.ag_ 1 (by kernel_rfl)
    refine sim_run 8 [] (hRE.cast (by kernel_rfl)) (by kernel_rfl) trivial (fun ρ200 w200 hm200 hR200 => ?_)
    have hag := hag.moved (hm200.castL (by kernel_rfl))
    refine sim_know 21 (decide ((↑i : Int) < (↑n : Int))) true (by kernel_rfl) (decide_eq_true (by omega)) ?_
    refine sim_run 9 [] (hR200.cast (by kernel_rfl)) (by kernel_rfl) trivial (fun ρ201 w201 hm201 hR201 => ?_)
    have hag := hag.moved (hm201.castL (by kernel_rfl))
    
    have e0 := (hag.at_ 0 (by omega)).trans e0
    have hRl := (by assumption : Rel _ _ _ _ _).cast (rs' := [⟨y.cells.map .v, false⟩]) (by kernel_rfl)
    refine sim_loop (ι := Nat) (T := []) (w0 := w) 0 [0, 1, 5] (fun k => [(6, LI k)]) (fun _ => [⟨y.cells.map .v, false⟩]) (fun k _ => k ≤ i ∧ ∀ (a : Nat) (x : In), a < k → l[a]? = some x → y.id ≠ x.id ∧ y.id ≠ 0 ∧ x.id ≠ 0) (fun k => i - k) (by kernel_rfl) (by kernel_rfl) hRl ⟨Nat.zero_le _, fun a x h => absurd h (Nat.not_lt_zero _)⟩ ?_
    clear hRl hag
    rintro k d3 w3 hR3 ⟨hk, hin⟩
    by_cases hki : k < i
    · obtain ⟨x, hx⟩ : ∃ x, l[k]? = some x := ⟨_, List.getElem?_eq_getElem (by omega)⟩
      have hag0 := hR3.ag_ 1 (by kernel_rfl)
      refine sim_see (n := n) x.cells k 1 (by kernel_rfl) (by rw [List.getElem?_map, hx]; rfl) hrd (in_len2 l) (by omega) (by omega) (Nat.le_refl _) (by simp) hR3 (by kernel_rfl) (fun ga' oa' ρF eA2 hgT2 hgl2 hmF e1 hRF => ?_)
      injection eA2 with eA2
      injection eA2 with eg eo
      subst eg eo
      have e0 := (hmF.agree 0 (by show 0 < 1; omega)).trans e0
      have hag0 := hag0.moved hmF
      have hag := hRF.ag_ 2 (by kernel_rfl)
      refine sim_run 7 [] (hRF.cast (by kernel_rfl)) (by kernel_rfl) trivial (fun ρ300 w300 hm300 hR300 => ?_)
      have hag0 := hag0.moved (hm300.castL (by kernel_rfl))
      have hag := hag.moved (hm300.castL (by kernel_rfl))
      refine sim_know 26 (decide ((↑k : Int) < (↑i : Int))) true (by kernel_rfl) (decide_eq_true (by omega)) ?_
      refine sim_run 5 [] (hR300.cast (by kernel_rfl)) (by kernel_rfl) trivial (fun ρ301 w301 hm301 hR301 => ?_)
      have hag0 := hag0.moved (hm301.castL (by kernel_rfl))
      have hag := hag.moved (hm301.castL (by kernel_rfl))
      refine sim_draw [] (by kernel_rfl) (by kernel_rfl) hR301 (fun hR302 => ?_)
      refine sim_ordN 2 [] hR302 (by kernel_rfl) trivial (fun ρ303 w303 hm303 hR303 => ?_)
      have hag0 := hag0.moved (hm303.castL (by kernel_rfl))
      have hag := hag.moved (hm303.castL (by kernel_rfl))
      refine sim_ord_index (.v (.slice (some ⟨ga, oa, none⟩) n cp)) n 21 i 0 0 (by kernel_rfl) (by omega) (by omega) rfl hR303 (by simp only [Nm.at_, hag.at_ 0 (by omega), e0, Nat.add_zero, Int.toNat_natCast]) (fun hR304 => ?_)
      refine sim_ordN 4 [] hR304 (by kernel_rfl) trivial (fun ρ305 w305 hm305 hR305 => ?_)
      have hag0 := hag0.moved (hm305.castL (by kernel_rfl))
      have hag := hag.moved (hm305.castL (by kernel_rfl))
      refine sim_ord_index (.v (.slice (some ⟨ga, oa, none⟩) n cp)) n 21 k 1 0 (by kernel_rfl) (by omega) (by omega) rfl hR305 (by simp only [Nm.at_, hag.at_ 1 (by omega), e1, Nat.add_zero, Int.toNat_natCast]) (fun hR307 => ?_)
      refine sim_ordN 4 [] hR307 (by kernel_rfl) trivial (fun ρ308 w308 hm308 hR308 => ?_)
      have hag0 := hag0.moved (hm308.castL (by kernel_rfl))
      have hag := hag.moved (hm308.castL (by kernel_rfl))
      refine sim_forkO hR308 40 (y.id == x.id) (by kernel_rfl) (fun hq309 hR309 => ?_) (fun hq309 hR309 => ?_)
      have hq309 := of_decide_eq_true hq309
      refine sim_ordN 15 [] hR309 (by kernel_rfl) trivial (fun ρ310 w310 hm310 hR310 => ?_)
      have hag0 := hag0.moved (hm310.castL (by kernel_rfl))
      have hag := hag.moved (hm310.castL (by kernel_rfl))
      refine sim_ord_endR hR310 (by kernel_rfl) (fun hR311 => ?_)
      refine sim_run 3 [] (hR311.cast (by kernel_rfl)) (by kernel_rfl) trivial (fun ρ312 w312 hm312 hR312 => ?_)
      have hag0 := hag0.moved (hm312.castL (by kernel_rfl))
      have hag := hag.moved (hm312.castL (by kernel_rfl))
      refine sim_call 6 [] (by kernel_rfl) ?_
      refine Calls.mono (alive16_any _) ?_
      rintro e313 w313 ⟨rfl, hb313⟩
      have hR313 := hR312.below hb313
      refine Back.of (LB true) hR313 rfl ?_
      refine sim_run 2 [] (hR313.cast (by kernel_rfl)) (by kernel_rfl) trivial (fun ρ314 w314 hm314 hR314 => ?_)
      have hag0 := hag0.moved (hm314.castL (by kernel_rfl))
      have hag := hag.moved (hm314.castL (by kernel_rfl))
      refine sim_ret (LB true) hR314 (by kernel_rfl) (by kernel_rfl) ?_
      exact ⟨rfl, hR314.toBelow⟩
      have hq309 := of_decide_eq_false hq309
      refine sim_ordN 2 [] hR309 (by kernel_rfl) trivial (fun ρ315 w315 hm315 hR315 => ?_)
      have hag0 := hag0.moved (hm315.castL (by kernel_rfl))
      have hag := hag.moved (hm315.castL (by kernel_rfl))
      refine sim_ord_index (.v (.slice (some ⟨ga, oa, none⟩) n cp)) n 21 i 0 0 (by kernel_rfl) (by omega) (by omega) rfl hR315 (by simp only [Nm.at_, hag.at_ 0 (by omega), e0, Nat.add_zero, Int.toNat_natCast]) (fun hR316 => ?_)
      refine sim_ordN 5 [] hR316 (by kernel_rfl) trivial (fun ρ317 w317 hm317 hR317 => ?_)
      have hag0 := hag0.moved (hm317.castL (by kernel_rfl))
      have hag := hag.moved (hm317.castL (by kernel_rfl))
      refine sim_forkO hR317 48 (y.id == 0) (by kernel_rfl) (fun hq318 hR318 => ?_) (fun hq318 hR318 => ?_)
      have hq318 := of_decide_eq_true hq318
      refine sim_ordN 7 [] hR318 (by kernel_rfl) trivial (fun ρ319 w319 hm319 hR319 => ?_)
      have hag0 := hag0.moved (hm319.castL (by kernel_rfl))
      have hag := hag.moved (hm319.castL (by kernel_rfl))
      refine sim_ord_endR hR319 (by kernel_rfl) (fun hR320 => ?_)
      refine sim_run 3 [] (hR320.cast (by kernel_rfl)) (by kernel_rfl) trivial (fun ρ321 w321 hm321 hR321 => ?_)
      have hag0 := hag0.moved (hm321.castL (by kernel_rfl))
      have hag := hag.moved (hm321.castL (by kernel_rfl))
      refine sim_call 6 [] (by kernel_rfl) ?_
      refine Calls.mono (alive16_any _) ?_
      rintro e322 w322 ⟨rfl, hb322⟩
      have hR322 := hR321.below hb322
      refine Back.of (LB true) hR322 rfl ?_
      refine sim_run 2 [] (hR322.cast (by kernel_rfl)) (by kernel_rfl) trivial (fun ρ323 w323 hm323 hR323 => ?_)
      have hag0 := hag0.moved (hm323.castL (by kernel_rfl))
      have hag := hag.moved (hm323.castL (by kernel_rfl))
      refine sim_ret (LB true) hR323 (by kernel_rfl) (by kernel_rfl) ?_
      exact ⟨rfl, hR323.toBelow⟩
      have hq318 := of_decide_eq_false hq318
      refine sim_ordN 2 [] hR318 (by kernel_rfl) trivial (fun ρ324 w324 hm324 hR324 => ?_)
      have hag0 := hag0.moved (hm324.castL (by kernel_rfl))
      have hag := hag.moved (hm324.castL (by kernel_rfl))
      refine sim_ord_index (.v (.slice (some ⟨ga, oa, none⟩) n cp)) n 21 k 1 0 (by kernel_rfl) (by omega) (by omega) rfl hR324 (by simp only [Nm.at_, hag.at_ 1 (by omega), e1, Nat.add_zero, Int.toNat_natCast]) (fun hR326 => ?_)
      refine sim_ordN 4 [] hR326 (by kernel_rfl) trivial (fun ρ327 w327 hm327 hR327 => ?_)
      have hag0 := hag0.moved (hm327.castL (by kernel_rfl))
      have hag := hag.moved (hm327.castL (by kernel_rfl))
      refine sim_ord_endR hR327 (by kernel_rfl) (fun hR328 => ?_)
      refine sim_fork 55 (x.id == 0) (by kernel_rfl) (fun hq329 => ?_) (fun hq329 => ?_)
      have hq329 := of_decide_eq_true hq329
      refine sim_run 3 [] (hR328.cast (by kernel_rfl)) (by kernel_rfl) trivial (fun ρ330 w330 hm330 hR330 => ?_)
      have hag0 := hag0.moved (hm330.castL (by kernel_rfl))
      have hag := hag.moved (hm330.castL (by kernel_rfl))
      refine sim_call 6 [] (by kernel_rfl) ?_
      refine Calls.mono (alive16_any _) ?_
      rintro e331 w331 ⟨rfl, hb331⟩
      have hR331 := hR330.below hb331
      refine Back.of (LB true) hR331 rfl ?_
      refine sim_run 2 [] (hR331.cast (by kernel_rfl)) (by kernel_rfl) trivial (fun ρ332 w332 hm332 hR332 => ?_)
      have hag0 := hag0.moved (hm332.castL (by kernel_rfl))
      have hag := hag.moved (hm332.castL (by kernel_rfl))
      refine sim_ret (LB true) hR332 (by kernel_rfl) (by kernel_rfl) ?_
      exact ⟨rfl, hR332.toBelow⟩
      have hq329 := of_decide_eq_false hq329
      refine sim_run 8 [⟨8, 1, LI (IntKind.i64.wrap ((↑k : Int) + 1)), LI ((↑k : Int) + 1)⟩] (hR328.cast (by kernel_rfl)) (by kernel_rfl) ⟨eqi (IntWalk.i64_in _ (by omega)), trivial⟩ (fun ρ333 w333 hm333 hR333 => ?_)
      have hag0 := hag0.moved (hm333.castL (by kernel_rfl))
      have hag := hag.moved (hm333.castL (by kernel_rfl))
      
      exact sim_again (k + 1) (by kernel_rfl) (by show i - (k + 1) < i - k; omega) (by kernel_rfl) (by kernel_rfl) (by kernel_rfl) hag0.ag (Rel.cast (by assumption) (by kernel_rfl)) (by kernel_rfl) (by kernel_rfl) ⟨hki, fun a z ha hz => by
        rcases Nat.lt_or_ge a k with h1 | h1
        · exact hin a z h1 hz
        · obtain rfl : a = k := by omega
          rw [hx] at hz
          injection hz with hz
          subst hz
          exact ⟨by assumption, by assumption, by assumption⟩⟩
    · refine sim_run 7 [] (hR3.cast (by kernel_rfl)) (by kernel_rfl) trivial (fun ρ400 w400 hm400 hR400 => ?_)
      refine sim_know 26 (decide ((↑k : Int) < (↑i : Int))) false (by kernel_rfl) (decide_eq_false (by omega)) ?_
      refine sim_run 1 [] (hR400.cast (by kernel_rfl)) (by kernel_rfl) trivial (fun ρ401 w401 hm401 hR401 => ?_)
      refine sim_leave (by kernel_rfl) ?_
      refine sim_run 6 [⟨5, 1, LI (IntKind.i64.wrap ((↑i : Int) + 1)), LI ((↑i : Int) + 1)⟩] (hR401.cast (by kernel_rfl)) (by kernel_rfl) ⟨eqi (IntWalk.i64_in _ (by omega)), trivial⟩ (fun ρ402 w402 hm402 hR402 => ?_)
      
      exact sim_rs [] (sim_again (i + 1) (by kernel_rfl) (by show n - (i + 1) < n - i; omega) (by kernel_rfl) (by kernel_rfl) (by kernel_rfl) Agree.zero ((by assumption : Rel _ _ _ _ _).none0) (by kernel_rfl) (by kernel_rfl) ⟨hlt, fun a b x z hab hb hx hz => by
        rcases Nat.lt_or_ge b i with h1 | h1
        · exact hids a b x z hab h1 hx hz
        · obtain rfl : b = i := by omega
          rw [hy] at hz
          injection hz with hz
          subst hz
          exact hin a x (by omega) hx⟩)
  · refine sim_run 8 [] (hR2.cast (by kernel_rfl)) (by kernel_rfl) trivial (fun ρ500 w500 hm500 hR500 => ?_)
    refine sim_know 21 (decide ((↑i : Int) < (↑n : Int))) false (by kernel_rfl) (decide_eq_false (by omega)) ?_
    refine sim_run 1 [] (hR500.cast (by kernel_rfl)) (by kernel_rfl) trivial (fun ρ501 w501 hm501 hR501 => ?_)
    refine sim_leave (by kernel_rfl) ?_
    refine sim_run 2 [] (hR501.cast (by kernel_rfl)) (by kernel_rfl) trivial (fun ρ502 w502 hm502 hR502 => ?_)
    
    obtain rfl : i = n := by omega
    refine sim_to (regK Try.f3 11) (tmplJ Try.f3.ntmps 0 [(0, LS party), (1, .v (.slice A i cp))]) [] (by kernel_rfl) (by kernel_rfl) (by kernel_rfl) (fun d9 => ?_)
    have hbw := ((by assumption : Rel _ _ _ _ _)).toBelow
    refine sim_run 2 [] (hR502.cast (by kernel_rfl)) (by kernel_rfl) trivial (fun ρ600 w600 hm600 hR600 => ?_)
    refine sim_call 7 [LS party, .v (Value.slice A i cp)] (by kernel_rfl) ?_
    refine Calls.mono (for_any (party) (A) (i) (cp) (w.heap.size) (l) _ (h.belowN (hR600).toBelow (Nat.le_refl _)) (hR600).toBelow.size (by assumption) (by omega) (by assumption)) ?_
    rintro e601 w601 ⟨A2, c2, la, rfl, hpl, hrowS, hws, hb601⟩
    rw [show als la = (la.map Al.cells).flatten from List.flatMap_def ..] at hrowS
    have hrow := Own.start hR600 hrowS
    have hR601 := (hR600).below hb601
    refine Back.of (.v (.slice A2 la.length c2)) hR601 rfl ?_
    refine sim_run 5 [] (hR601.cast (by kernel_rfl)) (by kernel_rfl) trivial (fun ρ602 w602 hm602 hR602 => ?_)
    have hrow := hrow.moved (hm602.castL (by kernel_rfl))
    
    have hm30 : la.length ≤ 30 := by
      have h1 := forM_len party l
      have h2 : la.length = (forM party l).length := by rw [← hpl, List.length_map]
      omega
    have hRn := (by assumption : Rel _ _ _ _ _).cast (rs' := []) (by kernel_rfl)
    refine sim_to (regK Try.f3 12) (tmplJ Try.f3.ntmps 0 [(0, LS party), (1, .v (.slice A i cp)), (7, .v (.slice A2 la.length c2))]) [] (by kernel_rfl) (by kernel_rfl) (by kernel_rfl) (fun d10 => ?_)
    exact near_tail hrd hll hn30 hok (by rw [hll]; exact hids) hRn (hrow.castR (by kernel_rfl)) rfl hm30 hpl (fun a ha => own_sl (hws a ha)) d10
end Go.Proofs.Ytnojkclgjinjhaa
