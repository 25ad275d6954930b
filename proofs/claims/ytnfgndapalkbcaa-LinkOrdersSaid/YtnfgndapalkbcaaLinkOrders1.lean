/-
  LinkOrders: the orders of the two graphs.
-/
import Derived.Test.YtnfgndapalkbcaaOpLk
import Derived.Test.YtnfgndapalkbcaaGrL
import Derived.Test.YtnfgndapalkbcaaSameI
namespace Go.Proofs.Ytnfgndapalkbcaa
open Go Go.RowKit
def okO (w0 : World) : Ending → World → Prop := fun e w' => e = .returned (.bool true) ∧ Below w0.heap.size w0 w'
theorem sameOR (A A' : Option Addr) (n c c' B B' : Nat) (xs : List Nat) (w : World) (h : Reads w B 1 A n (nats xs)) (h' : Reads w B' 1 A' n (nats xs)) (hn : n ≤ 1000000000000) :
    Calls Try.prog 18 #[.slice A n c, .slice A' n c'] w fun e w' => e = .returned (.bool true) ∧ Below w.heap.size w w' := by
  rw [← nats_ofNat] at h h'
  refine (sameInts_any A A' n c n c' B B' _ _ w h h' hn).mono fun _ _ ⟨h1, m, h2⟩ => ⟨?_, h2 ▸ below_drewN0 _ _⟩
  rw [h1, decide_eq_true rfl]
attribute [local irreducible] run goO leaveK someK nextK nextT nextOT nextOD loopBody loopRest loopK fillJ tmplOf tmplJ mergeT At AtO drawOk ordOf gateOf callC callO topOp topO idxOf appOf storeOf clearOf sliceOf calleeOf calleeO topQ idxQ newRowOf resL stepOp seek
set_option maxRecDepth 100000 in
set_option maxHeartbeats 4000000 in
theorem ord_last (w0 : World) (q q2 : GrP) (u2 : List Nat) (ls2 : List Lk) (ok : Bool) (xss : List (List Nat)) (Lo : Option Addr) (co n3 b3 B3 : Nat) (h3 : n3 = xss.length) (hx : xss.length ≤ 1000) (hxx : ∀ xs ∈ xss, xs.length ≤ 1000) (hGI2 : GInv u2 ls2) (hok : ok = true → (Uf.orderM u2 ls2).map (Uf.cls u2) = xss) (w : World) (ρ : Nm) (hR : Rel [] w0 ρ [gR q, gR q2] w) (hs2 : Sta q2.has (GrV q2 u2 ls2) ρ [gR q, gR q2] w) (hrow : Sta (btw b3 B3) (RowW B3 b3 Lo xss) ρ [gR q, gR q2] w) (e1 : ρ 1 = (q2.b, 0)) (d : Nat → Value) :
    At Try.prog (bodyPost Try.prog Try.f4 (okO w0)) ⟨regK Try.f4 45, fillJ (tmplJ Try.f4.ntmps 0 [(7, .ptr 1 0), (9, LB ok), (13, .v (.slice Lo n3 co))]) d 0, [gR q, gR q2]⟩ ρ w := by
  subst h3
  have hag := hR.ag_ 2 (by kernel_rfl)
  refine sim_run 1 [] (hR.cast (by kernel_rfl)) (by kernel_rfl) trivial (fun ρ100 w100 hm100 hR100 => ?_)
  have hs2 := hs2.moved (hm100.castL (by kernel_rfl))
  have hrow := hrow.moved (hm100.castL (by kernel_rfl))
  have hag := hag.moved (hm100.castL (by kernel_rfl))
  refine sim_call 16 [.ptr 1 0] (by kernel_rfl) ?_
  have ez1_101 := (hag.at_ 1 (by omega)).trans e1
  simp only [denL, LV.den, Nm.at_, ez1_101, Nat.add_zero]
  refine Calls.mono (orderG_any (q2) (u2) (ls2) _ (hs2.is) (hGI2)) ?_
  rintro e101 w101 ⟨La, ca, rfl, hr101, hb101⟩
  have hrow2 := Sta.rows (hR100) hr101
  have hR101 := (hR100).below hb101
  have hs2 := hs2.below hb101
  have hrow := hrow.below hb101
  refine Back.of (.v (.slice La (Uf.orderM u2 ls2).length ca)) hR101 rfl ?_
  refine sim_run 5 [] (hR101.cast (by kernel_rfl)) (by kernel_rfl) trivial (fun ρ102 w102 hm102 hR102 => ?_)
  have hag := hag.moved (hm102.castL (by kernel_rfl))
  have hrow2 := hrow2.moved (hm102.castL (by kernel_rfl))
  have hs2 := hs2.moved (hm102.castL (by kernel_rfl))
  have hrow := hrow.moved (hm102.castL (by kernel_rfl))
  
  cases ok with
  | false =>
    refine sim_run 17 [] hR102 (by kernel_rfl) trivial (fun ρ200 w200 hm200 hR200 => ?_)
    have hag := hag.moved hm200
    have hrow2 := hrow2.moved hm200
    have hs2 := hs2.moved hm200
    have hrow := hrow.moved hm200
    
    refine sim_loop (ι := Nat) (T := []) (w0 := w0) 0 [9, 13] (fun i => [(22, LI i)]) (fun _ => [gR q, gR q2]) (fun i _ => i ≤ xss.length) (fun i => xss.length - i) (by kernel_rfl) (by kernel_rfl) ((by assumption : Rel _ _ _ _ _).cast (by kernel_rfl)) (Nat.zero_le _) ?_
    clear hs2 hrow hrow2 hag
    rintro i d w2 hR2 hi
    by_cases hlt : i < xss.length
    · refine sim_run 8 [] (hR2.cast (by kernel_rfl)) (by kernel_rfl) trivial (fun ρ300 w300 hm300 hR300 => ?_)
      refine sim_know 266 (decide ((↑i : Int) < (↑xss.length : Int))) true (by kernel_rfl) (decide_eq_true (by omega)) ?_
      refine sim_run 4 [] (hR300.cast (by kernel_rfl)) (by kernel_rfl) trivial (fun ρ301 w301 hm301 hR301 => ?_)
      refine sim_leave (by kernel_rfl) ?_
      refine sim_run 2 [] (hR301.cast (by kernel_rfl)) (by kernel_rfl) trivial (fun ρ302 w302 hm302 hR302 => ?_)
      refine sim_call 9 [] (by kernel_rfl) ?_
      refine Calls.mono (alive18_any _) ?_
      rintro e303 w303 ⟨rfl, hb303⟩
      have hR303 := hR302.below hb303
      refine Back.of (LB true) hR303 rfl ?_
      refine sim_run 2 [] (hR303.cast (by kernel_rfl)) (by kernel_rfl) trivial (fun ρ304 w304 hm304 hR304 => ?_)
      refine sim_ret (LB true) hR304 (by kernel_rfl) (by kernel_rfl) ?_
      exact ⟨rfl, hR304.toBelow⟩
      
    · refine sim_run 8 [] (hR2.cast (by kernel_rfl)) (by kernel_rfl) trivial (fun ρ400 w400 hm400 hR400 => ?_)
      refine sim_know 266 (decide ((↑i : Int) < (↑xss.length : Int))) false (by kernel_rfl) (decide_eq_false (by omega)) ?_
      refine sim_run 4 [] (hR400.cast (by kernel_rfl)) (by kernel_rfl) trivial (fun ρ401 w401 hm401 hR401 => ?_)
      refine sim_leave (by kernel_rfl) ?_
      refine sim_run 2 [] (hR401.cast (by kernel_rfl)) (by kernel_rfl) trivial (fun ρ402 w402 hm402 hR402 => ?_)
      refine sim_call 9 [] (by kernel_rfl) ?_
      refine Calls.mono (alive18_any _) ?_
      rintro e403 w403 ⟨rfl, hb403⟩
      have hR403 := hR402.below hb403
      refine Back.of (LB true) hR403 rfl ?_
      refine sim_run 2 [] (hR403.cast (by kernel_rfl)) (by kernel_rfl) trivial (fun ρ404 w404 hm404 hR404 => ?_)
      refine sim_ret (LB true) hR404 (by kernel_rfl) (by kernel_rfl) ?_
      exact ⟨rfl, hR404.toBelow⟩
      
  | true =>
    have hyx := hok rfl
    have hny : (Uf.orderM u2 ls2).length = xss.length := by rw [← hyx, List.length_map]
    rw [hyx] at hrow2
    refine sim_run 9 [] hR102 (by kernel_rfl) trivial (fun ρ500 w500 hm500 hR500 => ?_)
    have hag := hag.moved hm500
    have hrow2 := hrow2.moved hm500
    have hs2 := hs2.moved hm500
    have hrow := hrow.moved hm500
    refine sim_know 261 ((↑(Uf.orderM u2 ls2).length : Int) != (↑xss.length : Int)) false (by kernel_rfl) (by rw [hny]; exact bne_self_eq_false _) ?_
    refine sim_run 8 [] (hR500.cast (by kernel_rfl)) (by kernel_rfl) trivial (fun ρ501 w501 hm501 hR501 => ?_)
    have hag := hag.moved (hm501.castL (by kernel_rfl))
    have hrow2 := hrow2.moved (hm501.castL (by kernel_rfl))
    have hs2 := hs2.moved (hm501.castL (by kernel_rfl))
    have hrow := hrow.moved (hm501.castL (by kernel_rfl))
    
    obtain ⟨b4, B4, hrow2⟩ : ∃ b4 B4 : Nat, Sta (btw b4 B4) (RowW B4 b4 La xss) ρ501 _ _ := ⟨_, _, hrow2⟩
    refine sim_loop (ι := Nat) (T := []) (w0 := w0) 0 [9, 13, 21] (fun i => [(22, LI i)]) (fun _ => [gR q, gR q2]) (fun i w1 => i ≤ xss.length ∧ Sta (btw b3 B3) (RowW B3 b3 Lo xss) ρ501 [gR q, gR q2] w1 ∧ Sta (btw b4 B4) (RowW B4 b4 La xss) ρ501 [gR q, gR q2] w1) (fun i => xss.length - i) (by kernel_rfl) (by kernel_rfl) ((by assumption : Rel _ _ _ _ _).cast (by kernel_rfl)) ⟨Nat.zero_le _, hrow.castR (by kernel_rfl), hrow2.castR (by kernel_rfl)⟩ ?_
    iterate 8 (try clear hrow)
    iterate 8 (try clear hrow2)
    iterate 8 (try clear hag)
    rintro i d w2 hR2 ⟨hi, hrow, hrow2⟩
    have hag := hR2.ag_ 2 (by kernel_rfl)
    by_cases hlt : i < xss.length
    · obtain ⟨xs, hxs⟩ : ∃ xs, xss[i]? = some xs := ⟨_, List.getElem?_eq_getElem hlt⟩
      have hxl := hxx xs (List.mem_of_getElem? hxs)
      refine sim_seeRow i 2 (by kernel_rfl) hxs hrow hR2 (by kernel_rfl) (fun ga oa Ac cc ρE eA hgb hrd hcc hcm hAc hmE eE hRE => ?_)
      subst eA
      have hrow := hrow.moved hmE
      have hrow2 := hrow2.moved hmE
      have hrd := hrd.moved hmE
      have hag := hag.moved hmE
      refine sim_seeRow i 3 (by kernel_rfl) hxs hrow2 hRE (by kernel_rfl) (fun gb ob Ab cb ρF eB hgb2 hrd2 hcc2 hcm2 hAb hmF eF hRF => ?_)
      subst eB
      have hrow := hrow.moved hmF
      have hrow2 := hrow2.moved hmF
      have hrd := hrd.moved hmF
      have hrd2 := hrd2.moved hmF
      have hag := hag.moved hmF
      have e2 := (hmF.at_ 2 (by kernel_rfl)).trans eE
      have hag3 := hRF.ag_ 4 (by kernel_rfl)
      refine sim_run 8 [] (hRF.cast (by kernel_rfl)) (by kernel_rfl) trivial (fun ρ600 w600 hm600 hR600 => ?_)
      have hrow := hrow.moved (hm600.castL (by kernel_rfl))
      have hrow2 := hrow2.moved (hm600.castL (by kernel_rfl))
      have hrd := hrd.moved (hm600.castL (by kernel_rfl))
      have hrd2 := hrd2.moved (hm600.castL (by kernel_rfl))
      have hag := hag.moved (hm600.castL (by kernel_rfl))
      have hag3 := hag3.moved (hm600.castL (by kernel_rfl))
      refine sim_know 266 (decide ((↑i : Int) < (↑xss.length : Int))) true (by kernel_rfl) (decide_eq_true (by omega)) ?_
      refine sim_run 8 [] (hR600.cast (by kernel_rfl)) (by kernel_rfl) trivial (fun ρ601 w601 hm601 hR601 => ?_)
      have hrow := hrow.moved (hm601.castL (by kernel_rfl))
      have hrow2 := hrow2.moved (hm601.castL (by kernel_rfl))
      have hrd := hrd.moved (hm601.castL (by kernel_rfl))
      have hrd2 := hrd2.moved (hm601.castL (by kernel_rfl))
      have hag := hag.moved (hm601.castL (by kernel_rfl))
      have hag3 := hag3.moved (hm601.castL (by kernel_rfl))
      refine sim_draw [] (by kernel_rfl) (by kernel_rfl) hR601 (fun hR602 => ?_)
      have hrow := hrow.drew
      have hrow2 := hrow2.drew
      have hrd := hrd.drew
      have hrd2 := hrd2.drew
      refine sim_ordN 2 [] hR602 (by kernel_rfl) trivial (fun ρ603 w603 hm603 hR603 => ?_)
      have hag := hag.moved (hm603.castL (by kernel_rfl))
      have hag3 := hag3.moved (hm603.castL (by kernel_rfl))
      have hrow := hrow.moved (hm603.castL (by kernel_rfl))
      have hrow2 := hrow2.moved (hm603.castL (by kernel_rfl))
      have hrd := hrd.moved (hm603.castL (by kernel_rfl))
      have hrd2 := hrd2.moved (hm603.castL (by kernel_rfl))
      refine sim_ord_index (.v (.slice (some ⟨ga, oa, none⟩) xss.length co)) xss.length 1 (i : Int) 2 0 (by kernel_rfl) (by omega) (by omega) rfl hR603 (by simp only [Nm.at_, hag3.at_ 2 (by omega), e2, Nat.add_zero, Int.toNat_natCast, Nat.mul_one]) (fun hR604 => ?_)
      refine sim_ordN 3 [] hR604 (by kernel_rfl) trivial (fun ρ605 w605 hm605 hR605 => ?_)
      have hag := hag.moved (hm605.castL (by kernel_rfl))
      have hag3 := hag3.moved (hm605.castL (by kernel_rfl))
      have hrow := hrow.moved (hm605.castL (by kernel_rfl))
      have hrow2 := hrow2.moved (hm605.castL (by kernel_rfl))
      have hrd := hrd.moved (hm605.castL (by kernel_rfl))
      have hrd2 := hrd2.moved (hm605.castL (by kernel_rfl))
      refine sim_ord_index (.v (.slice (some ⟨gb, ob, none⟩) (Uf.orderM u2 ls2).length ca)) (Uf.orderM u2 ls2).length 1 (i : Int) 3 0 (by kernel_rfl) (by omega) (by omega) rfl hR605 (by simp only [Nm.at_, hag3.at_ 3 (by omega), eF, Nat.add_zero, Int.toNat_natCast, Nat.mul_one]) (fun hR607 => ?_)
      refine sim_ordN 1 [] hR607 (by kernel_rfl) trivial (fun ρ608 w608 hm608 hR608 => ?_)
      have hag := hag.moved (hm608.castL (by kernel_rfl))
      have hag3 := hag3.moved (hm608.castL (by kernel_rfl))
      have hrow := hrow.moved (hm608.castL (by kernel_rfl))
      have hrow2 := hrow2.moved (hm608.castL (by kernel_rfl))
      have hrd := hrd.moved (hm608.castL (by kernel_rfl))
      have hrd2 := hrd2.moved (hm608.castL (by kernel_rfl))
      refine sim_ord_call (T := []) (w0 := w0) 18 [.v (Value.slice Ac xs.length cc), .v (Value.slice Ab xs.length cb)] (by kernel_rfl) ?_
      refine Calls.mono (sameOR _ _ _ _ _ _ _ (xs) _ (hrd.is) (hrd2.is) ((by omega))) ?_
      rintro e609 w609 ⟨rfl, hb609⟩
      have hR609 := hR608.call hb609 (LB true)
      have hrow := hrow.below hb609
      have hrow2 := hrow2.below hb609
      have hrd := hrd.below hb609
      have hrd2 := hrd2.below hb609
      refine BackO.of (LB true) hR609 rfl ?_
      refine sim_ordN 1 [] hR609 (by kernel_rfl) trivial (fun ρ610 w610 hm610 hR610 => ?_)
      have hag := hag.moved (hm610.castL (by kernel_rfl))
      have hag3 := hag3.moved (hm610.castL (by kernel_rfl))
      have hrow := hrow.moved (hm610.castL (by kernel_rfl))
      have hrow2 := hrow2.moved (hm610.castL (by kernel_rfl))
      have hrd := hrd.moved (hm610.castL (by kernel_rfl))
      have hrd2 := hrd2.moved (hm610.castL (by kernel_rfl))
      refine sim_ord_endR hR610 (by kernel_rfl) (fun hR611 => ?_)
      refine sim_run 8 [⟨50, 1, LI (IntKind.i64.wrap ((↑i : Int) + 1)), LI ((↑i : Int) + 1)⟩] (hR611.cast (by kernel_rfl)) (by kernel_rfl) ⟨eqi (IntWalk.i64_in _ (by omega)), trivial⟩ (fun ρ612 w612 hm612 hR612 => ?_)
      have hag := hag.moved (hm612.castL (by kernel_rfl))
      have hag3 := hag3.moved (hm612.castL (by kernel_rfl))
      have hrow := hrow.moved (hm612.castL (by kernel_rfl))
      have hrow2 := hrow2.moved (hm612.castL (by kernel_rfl))
      have hrd := hrd.moved (hm612.castL (by kernel_rfl))
      have hrd2 := hrd2.moved (hm612.castL (by kernel_rfl))
      
      exact sim_again (i + 1) (by kernel_rfl) (by show xss.length - (i + 1) < xss.length - i; omega) (by kernel_rfl) (by kernel_rfl) (by kernel_rfl) hag.ag (Rel.cast (by assumption) (by kernel_rfl)) (by kernel_rfl) (by kernel_rfl) ⟨hlt, hrow.cut hag rfl (by kernel_rfl), hrow2.cut hag rfl (by kernel_rfl)⟩
    · refine sim_run 8 [] (hR2.cast (by kernel_rfl)) (by kernel_rfl) trivial (fun ρ700 w700 hm700 hR700 => ?_)
      have hrow := hrow.moved (hm700.castL (by kernel_rfl))
      have hrow2 := hrow2.moved (hm700.castL (by kernel_rfl))
      have hag := hag.moved (hm700.castL (by kernel_rfl))
      refine sim_know 266 (decide ((↑i : Int) < (↑xss.length : Int))) false (by kernel_rfl) (decide_eq_false (by omega)) ?_
      refine sim_run 4 [] (hR700.cast (by kernel_rfl)) (by kernel_rfl) trivial (fun ρ701 w701 hm701 hR701 => ?_)
      have hrow := hrow.moved (hm701.castL (by kernel_rfl))
      have hrow2 := hrow2.moved (hm701.castL (by kernel_rfl))
      have hag := hag.moved (hm701.castL (by kernel_rfl))
      refine sim_leave (by kernel_rfl) ?_
      refine sim_run 2 [] (hR701.cast (by kernel_rfl)) (by kernel_rfl) trivial (fun ρ702 w702 hm702 hR702 => ?_)
      have hrow := hrow.moved (hm702.castL (by kernel_rfl))
      have hrow2 := hrow2.moved (hm702.castL (by kernel_rfl))
      have hag := hag.moved (hm702.castL (by kernel_rfl))
      refine sim_call 9 [] (by kernel_rfl) ?_
      refine Calls.mono (alive18_any _) ?_
      rintro e703 w703 ⟨rfl, hb703⟩
      have hR703 := hR702.below hb703
      have hrow := hrow.below hb703
      have hrow2 := hrow2.below hb703
      refine Back.of (LB true) hR703 rfl ?_
      refine sim_run 2 [] (hR703.cast (by kernel_rfl)) (by kernel_rfl) trivial (fun ρ704 w704 hm704 hR704 => ?_)
      have hag := hag.moved (hm704.castL (by kernel_rfl))
      have hrow := hrow.moved (hm704.castL (by kernel_rfl))
      have hrow2 := hrow2.moved (hm704.castL (by kernel_rfl))
      refine sim_ret (LB true) hR704 (by kernel_rfl) (by kernel_rfl) ?_
      exact ⟨rfl, hR704.toBelow⟩
      
end Go.Proofs.Ytnfgndapalkbcaa
