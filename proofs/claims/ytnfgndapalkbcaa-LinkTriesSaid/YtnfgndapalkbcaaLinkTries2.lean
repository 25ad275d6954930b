/-
  LinkTries: what was refused has changed nothing.
-/
import Derived.Test.YtnfgndapalkbcaaGrL
import Derived.Test.YtnfgndapalkbcaaOpLk
import Derived.Test.YtnfgndapalkbcaaSameLk
import Derived.Test.YtnfgndapalkbcaaSameI
import Derived.Test.YtnfgndapalkbcaaAppR
namespace Go.Proofs.Ytnfgndapalkbcaa
open Go Go.RowKit
def okP (w0 : World) : Ending → World → Prop := fun e w' => e = .returned (.bool true) ∧ Below w0.heap.size w0 w'
theorem sameNR (A A' : Option Addr) (n c c' B B' : Nat) (xs : List Nat) (w : World) (h : Reads w B 1 A n (nats xs)) (h' : Reads w B' 1 A' n (nats xs)) (hn : n ≤ 1000000000000) :
    Calls Try.prog 18 #[.slice A n c, .slice A' n c'] w fun e w' => e = .returned (.bool true) ∧ Below w.heap.size w w' := by
  rw [← nats_ofNat] at h h'
  refine (sameInts_any A A' n c n c' B B' _ _ w h h' hn).mono fun _ _ ⟨h1, m, h2⟩ => ⟨?_, h2 ▸ below_drewN0 _ _⟩
  rw [h1, decide_eq_true rfl]
attribute [local irreducible] run goO leaveK someK nextK nextT nextOT nextOD loopBody loopRest loopK fillJ tmplOf tmplJ mergeT At AtO drawOk ordOf gateOf callC callO topOp topO idxOf appOf storeOf clearOf sliceOf calleeOf calleeO topQ idxQ newRowOf resL stepOp seek
set_option maxRecDepth 100000 in
set_option maxHeartbeats 4000000 in
theorem tries_no (w0 : World) (q : GrP) (t : Int) (ht : t ≠ 0) (ls : List Lk) (xss : List (List Nat)) (Aw : Option Addr) (cw : Nat) (An : Option Addr) (cn : Nat) (Lo : Option Addr) (co : Nat) (La : Option Addr) (ca n1 n2 n3 n4 b1 B1 b2 B2 b3 B3 b4 B4 : Nat) (h1 : n1 = ls.length) (h2 : n2 = ls.length) (h3 : n3 = xss.length) (h4 : n4 = xss.length) (hls : ls.length ≤ 120) (hx : xss.length ≤ 1000) (hxx : ∀ xs ∈ xss, xs.length ≤ 1000) (w : World) (ρ : Nm) (hR : Rel [] w0 ρ [gR q] w) (hwas : Sta (btw b1 B1) (OwnW b1 30 3 (.slice Aw n1 cw) n1 (lkV ls)) ρ [gR q] w) (hnow : Sta (btw b2 B2) (OwnW b2 30 3 (.slice An n2 cn) n2 (lkV ls)) ρ [gR q] w) (hrow : Sta (btw b3 B3) (RowW B3 b3 Lo xss) ρ [gR q] w) (hrow2 : Sta (btw b4 B4) (RowW B4 b4 La xss) ρ [gR q] w) (d : Nat → Value) :
    At Try.prog (bodyPost Try.prog Try.f5 (okP w0)) ⟨regK Try.f5 17, fillJ (tmplJ Try.f5.ntmps 0 [(10, .v (.slice Aw n1 cw)), (11, .v (.slice Lo n3 co)), (12, LI t), (14, LI t), (15, .v (.slice An n2 cn)), (16, .v (.slice La n4 ca))]) d 0, [gR q]⟩ ρ w := by
  subst h1 h2 h3 h4
  have hag := hR.ag_ 1 (by kernel_rfl)
  refine sim_run 3 [] (hR.cast (by kernel_rfl)) (by kernel_rfl) trivial (fun ρ2100 w2100 hm2100 hR2100 => ?_)
  have hrow := hrow.moved (hm2100.castL (by kernel_rfl))
  have hrow2 := hrow2.moved (hm2100.castL (by kernel_rfl))
  have hwas := hwas.moved (hm2100.castL (by kernel_rfl))
  have hnow := hnow.moved (hm2100.castL (by kernel_rfl))
  have hag := hag.moved (hm2100.castL (by kernel_rfl))
  refine sim_know 81 (t == 0) false (by kernel_rfl) (decide_eq_false (by omega)) ?_
  refine sim_run 11 [] (hR2100.cast (by kernel_rfl)) (by kernel_rfl) trivial (fun ρ2101 w2101 hm2101 hR2101 => ?_)
  have hrow := hrow.moved (hm2101.castL (by kernel_rfl))
  have hrow2 := hrow2.moved (hm2101.castL (by kernel_rfl))
  have hwas := hwas.moved (hm2101.castL (by kernel_rfl))
  have hnow := hnow.moved (hm2101.castL (by kernel_rfl))
  have hag := hag.moved (hm2101.castL (by kernel_rfl))
  refine sim_know 95 ((↑xss.length : Int) != (↑xss.length : Int)) false (by kernel_rfl) (bne_self_eq_false _) ?_
  refine sim_run 8 [] (hR2101.cast (by kernel_rfl)) (by kernel_rfl) trivial (fun ρ2102 w2102 hm2102 hR2102 => ?_)
  have hrow := hrow.moved (hm2102.castL (by kernel_rfl))
  have hrow2 := hrow2.moved (hm2102.castL (by kernel_rfl))
  have hwas := hwas.moved (hm2102.castL (by kernel_rfl))
  have hnow := hnow.moved (hm2102.castL (by kernel_rfl))
  have hag := hag.moved (hm2102.castL (by kernel_rfl))
  
  refine sim_loop (ι := Nat) (T := []) (w0 := w0) 0 [10, 11, 15, 16] (fun i => [(17, LI i)]) (fun _ => [gR q]) (fun i w1 => i ≤ xss.length ∧ Sta (btw b1 B1) (OwnW b1 30 3 (.slice Aw ls.length cw) ls.length (lkV ls)) ρ2102 [gR q] w1 ∧ Sta (btw b2 B2) (OwnW b2 30 3 (.slice An ls.length cn) ls.length (lkV ls)) ρ2102 [gR q] w1 ∧ Sta (btw b3 B3) (RowW B3 b3 Lo xss) ρ2102 [gR q] w1 ∧ Sta (btw b4 B4) (RowW B4 b4 La xss) ρ2102 [gR q] w1) (fun i => xss.length - i) (by kernel_rfl) (by kernel_rfl) ((by assumption : Rel _ _ _ _ _).cast (by kernel_rfl)) ⟨Nat.zero_le _, hwas.castR (by kernel_rfl), hnow.castR (by kernel_rfl), hrow.castR (by kernel_rfl), hrow2.castR (by kernel_rfl)⟩ ?_
  iterate 8 (try clear hwas)
  iterate 8 (try clear hnow)
  iterate 8 (try clear hrow)
  iterate 8 (try clear hrow2)
  iterate 8 (try clear hag)
  rintro i d w2 hR2 ⟨hi, hwas, hnow, hrow, hrow2⟩
  have hag := hR2.ag_ 1 (by kernel_rfl)
  by_cases hlt : i < xss.length
  · obtain ⟨xs, hxs⟩ : ∃ xs, xss[i]? = some xs := ⟨_, List.getElem?_eq_getElem hlt⟩
    have hxl := hxx xs (List.mem_of_getElem? hxs)
    refine sim_seeRow i 1 (by kernel_rfl) hxs hrow hR2 (by kernel_rfl) (fun ga oa Ac cc ρE eA hgb hrd hcc hcm hAc hmE eE hRE => ?_)
    subst eA
    have hwas := hwas.moved hmE
    have hnow := hnow.moved hmE
    have hrow := hrow.moved hmE
    have hrow2 := hrow2.moved hmE
    have hrd := hrd.moved hmE
    have hag := hag.moved hmE
    refine sim_seeRow i 2 (by kernel_rfl) hxs hrow2 hRE (by kernel_rfl) (fun gb ob Ab cb ρF eB hgb2 hrd2 hcc2 hcm2 hAb hmF eF hRF => ?_)
    subst eB
    have hwas := hwas.moved hmF
    have hnow := hnow.moved hmF
    have hrow := hrow.moved hmF
    have hrow2 := hrow2.moved hmF
    have hrd := hrd.moved hmF
    have hrd2 := hrd2.moved hmF
    have hag := hag.moved hmF
    have e1 := (hmF.at_ 1 (by kernel_rfl)).trans eE
    have hag3 := hRF.ag_ 3 (by kernel_rfl)
    refine sim_run 8 [] (hRF.cast (by kernel_rfl)) (by kernel_rfl) trivial (fun ρ2200 w2200 hm2200 hR2200 => ?_)
    have hwas := hwas.moved (hm2200.castL (by kernel_rfl))
    have hnow := hnow.moved (hm2200.castL (by kernel_rfl))
    have hrow := hrow.moved (hm2200.castL (by kernel_rfl))
    have hrow2 := hrow2.moved (hm2200.castL (by kernel_rfl))
    have hrd := hrd.moved (hm2200.castL (by kernel_rfl))
    have hrd2 := hrd2.moved (hm2200.castL (by kernel_rfl))
    have hag := hag.moved (hm2200.castL (by kernel_rfl))
    have hag3 := hag3.moved (hm2200.castL (by kernel_rfl))
    refine sim_know 99 (decide ((↑i : Int) < (↑xss.length : Int))) true (by kernel_rfl) (decide_eq_true (by omega)) ?_
    refine sim_run 5 [] (hR2200.cast (by kernel_rfl)) (by kernel_rfl) trivial (fun ρ2201 w2201 hm2201 hR2201 => ?_)
    have hwas := hwas.moved (hm2201.castL (by kernel_rfl))
    have hnow := hnow.moved (hm2201.castL (by kernel_rfl))
    have hrow := hrow.moved (hm2201.castL (by kernel_rfl))
    have hrow2 := hrow2.moved (hm2201.castL (by kernel_rfl))
    have hrd := hrd.moved (hm2201.castL (by kernel_rfl))
    have hrd2 := hrd2.moved (hm2201.castL (by kernel_rfl))
    have hag := hag.moved (hm2201.castL (by kernel_rfl))
    have hag3 := hag3.moved (hm2201.castL (by kernel_rfl))
    refine sim_draw [] (by kernel_rfl) (by kernel_rfl) hR2201 (fun hR2202 => ?_)
    have hwas := hwas.drew
    have hnow := hnow.drew
    have hrow := hrow.drew
    have hrow2 := hrow2.drew
    have hrd := hrd.drew
    have hrd2 := hrd2.drew
    refine sim_ordN 2 [] hR2202 (by kernel_rfl) trivial (fun ρ2203 w2203 hm2203 hR2203 => ?_)
    have hag := hag.moved (hm2203.castL (by kernel_rfl))
    have hag3 := hag3.moved (hm2203.castL (by kernel_rfl))
    have hwas := hwas.moved (hm2203.castL (by kernel_rfl))
    have hnow := hnow.moved (hm2203.castL (by kernel_rfl))
    have hrow := hrow.moved (hm2203.castL (by kernel_rfl))
    have hrow2 := hrow2.moved (hm2203.castL (by kernel_rfl))
    have hrd := hrd.moved (hm2203.castL (by kernel_rfl))
    have hrd2 := hrd2.moved (hm2203.castL (by kernel_rfl))
    refine sim_ord_index (.v (.slice (some ⟨ga, oa, none⟩) xss.length co)) xss.length 1 (i : Int) 1 0 (by kernel_rfl) (by omega) (by omega) rfl hR2203 (by simp only [Nm.at_, hag3.at_ 1 (by omega), e1, Nat.add_zero, Int.toNat_natCast, Nat.mul_one]) (fun hR2204 => ?_)
    refine sim_ordN 3 [] hR2204 (by kernel_rfl) trivial (fun ρ2205 w2205 hm2205 hR2205 => ?_)
    have hag := hag.moved (hm2205.castL (by kernel_rfl))
    have hag3 := hag3.moved (hm2205.castL (by kernel_rfl))
    have hwas := hwas.moved (hm2205.castL (by kernel_rfl))
    have hnow := hnow.moved (hm2205.castL (by kernel_rfl))
    have hrow := hrow.moved (hm2205.castL (by kernel_rfl))
    have hrow2 := hrow2.moved (hm2205.castL (by kernel_rfl))
    have hrd := hrd.moved (hm2205.castL (by kernel_rfl))
    have hrd2 := hrd2.moved (hm2205.castL (by kernel_rfl))
    refine sim_ord_index (.v (.slice (some ⟨gb, ob, none⟩) xss.length ca)) xss.length 1 (i : Int) 2 0 (by kernel_rfl) (by omega) (by omega) rfl hR2205 (by simp only [Nm.at_, hag3.at_ 2 (by omega), eF, Nat.add_zero, Int.toNat_natCast, Nat.mul_one]) (fun hR2207 => ?_)
    refine sim_ordN 1 [] hR2207 (by kernel_rfl) trivial (fun ρ2208 w2208 hm2208 hR2208 => ?_)
    have hag := hag.moved (hm2208.castL (by kernel_rfl))
    have hag3 := hag3.moved (hm2208.castL (by kernel_rfl))
    have hwas := hwas.moved (hm2208.castL (by kernel_rfl))
    have hnow := hnow.moved (hm2208.castL (by kernel_rfl))
    have hrow := hrow.moved (hm2208.castL (by kernel_rfl))
    have hrow2 := hrow2.moved (hm2208.castL (by kernel_rfl))
    have hrd := hrd.moved (hm2208.castL (by kernel_rfl))
    have hrd2 := hrd2.moved (hm2208.castL (by kernel_rfl))
    refine sim_ord_call (T := []) (w0 := w0) 18 [.v (Value.slice Ac xs.length cc), .v (Value.slice Ab xs.length cb)] (by kernel_rfl) ?_
    refine Calls.mono (sameNR _ _ _ _ _ _ _ (xs) _ (hrd.is) (hrd2.is) ((by omega))) ?_
    rintro e2209 w2209 ⟨rfl, hb2209⟩
    have hR2209 := hR2208.call hb2209 (LB true)
    have hwas := hwas.below hb2209
    have hnow := hnow.below hb2209
    have hrow := hrow.below hb2209
    have hrow2 := hrow2.below hb2209
    have hrd := hrd.below hb2209
    have hrd2 := hrd2.below hb2209
    refine BackO.of (LB true) hR2209 rfl ?_
    refine sim_ordN 1 [] hR2209 (by kernel_rfl) trivial (fun ρ2210 w2210 hm2210 hR2210 => ?_)
    have hag := hag.moved (hm2210.castL (by kernel_rfl))
    have hag3 := hag3.moved (hm2210.castL (by kernel_rfl))
    have hwas := hwas.moved (hm2210.castL (by kernel_rfl))
    have hnow := hnow.moved (hm2210.castL (by kernel_rfl))
    have hrow := hrow.moved (hm2210.castL (by kernel_rfl))
    have hrow2 := hrow2.moved (hm2210.castL (by kernel_rfl))
    have hrd := hrd.moved (hm2210.castL (by kernel_rfl))
    have hrd2 := hrd2.moved (hm2210.castL (by kernel_rfl))
    refine sim_ord_endR hR2210 (by kernel_rfl) (fun hR2211 => ?_)
    refine sim_run 8 [⟨23, 1, LI (IntKind.i64.wrap ((↑i : Int) + 1)), LI ((↑i : Int) + 1)⟩] (hR2211.cast (by kernel_rfl)) (by kernel_rfl) ⟨eqi (IntWalk.i64_in _ (by omega)), trivial⟩ (fun ρ2212 w2212 hm2212 hR2212 => ?_)
    have hag := hag.moved (hm2212.castL (by kernel_rfl))
    have hag3 := hag3.moved (hm2212.castL (by kernel_rfl))
    have hwas := hwas.moved (hm2212.castL (by kernel_rfl))
    have hnow := hnow.moved (hm2212.castL (by kernel_rfl))
    have hrow := hrow.moved (hm2212.castL (by kernel_rfl))
    have hrow2 := hrow2.moved (hm2212.castL (by kernel_rfl))
    have hrd := hrd.moved (hm2212.castL (by kernel_rfl))
    have hrd2 := hrd2.moved (hm2212.castL (by kernel_rfl))
    
    exact sim_again (i + 1) (by kernel_rfl) (by show xss.length - (i + 1) < xss.length - i; omega) (by kernel_rfl) (by kernel_rfl) (by kernel_rfl) hag.ag (Rel.cast (by assumption) (by kernel_rfl)) (by kernel_rfl) (by kernel_rfl) ⟨hlt, hwas.cut hag rfl (by kernel_rfl), hnow.cut hag rfl (by kernel_rfl), hrow.cut hag rfl (by kernel_rfl), hrow2.cut hag rfl (by kernel_rfl)⟩
  · refine sim_run 8 [] (hR2.cast (by kernel_rfl)) (by kernel_rfl) trivial (fun ρ2300 w2300 hm2300 hR2300 => ?_)
    have hwas := hwas.moved (hm2300.castL (by kernel_rfl))
    have hnow := hnow.moved (hm2300.castL (by kernel_rfl))
    have hrow := hrow.moved (hm2300.castL (by kernel_rfl))
    have hrow2 := hrow2.moved (hm2300.castL (by kernel_rfl))
    have hag := hag.moved (hm2300.castL (by kernel_rfl))
    refine sim_know 99 (decide ((↑i : Int) < (↑xss.length : Int))) false (by kernel_rfl) (decide_eq_false (by omega)) ?_
    refine sim_run 1 [] (hR2300.cast (by kernel_rfl)) (by kernel_rfl) trivial (fun ρ2301 w2301 hm2301 hR2301 => ?_)
    have hwas := hwas.moved (hm2301.castL (by kernel_rfl))
    have hnow := hnow.moved (hm2301.castL (by kernel_rfl))
    have hrow := hrow.moved (hm2301.castL (by kernel_rfl))
    have hrow2 := hrow2.moved (hm2301.castL (by kernel_rfl))
    have hag := hag.moved (hm2301.castL (by kernel_rfl))
    refine sim_leave (by kernel_rfl) ?_
    refine sim_run 2 [] (hR2301.cast (by kernel_rfl)) (by kernel_rfl) trivial (fun ρ2302 w2302 hm2302 hR2302 => ?_)
    have hwas := hwas.moved (hm2302.castL (by kernel_rfl))
    have hnow := hnow.moved (hm2302.castL (by kernel_rfl))
    have hrow := hrow.moved (hm2302.castL (by kernel_rfl))
    have hrow2 := hrow2.moved (hm2302.castL (by kernel_rfl))
    have hag := hag.moved (hm2302.castL (by kernel_rfl))
    refine sim_call 9 [] (by kernel_rfl) ?_
    refine Calls.mono (alive18_any _) ?_
    rintro e2303 w2303 ⟨rfl, hb2303⟩
    have hR2303 := hR2302.below hb2303
    have hwas := hwas.below hb2303
    have hnow := hnow.below hb2303
    have hrow := hrow.below hb2303
    have hrow2 := hrow2.below hb2303
    refine Back.of (LB true) hR2303 rfl ?_
    refine sim_run 3 [] (hR2303.cast (by kernel_rfl)) (by kernel_rfl) trivial (fun ρ2304 w2304 hm2304 hR2304 => ?_)
    have hag := hag.moved (hm2304.castL (by kernel_rfl))
    have hwas := hwas.moved (hm2304.castL (by kernel_rfl))
    have hnow := hnow.moved (hm2304.castL (by kernel_rfl))
    have hrow := hrow.moved (hm2304.castL (by kernel_rfl))
    have hrow2 := hrow2.moved (hm2304.castL (by kernel_rfl))
    refine sim_call 20 [.v (Value.slice Aw ls.length cw), .v (Value.slice An ls.length cn)] (by kernel_rfl) ?_
    refine Calls.mono (sameLks_eq (Aw) (An) (ls.length) (cw) (cn) _ _ (ls) _ ((Reads.of_own hwas.is)) ((Reads.of_own hnow.is)) ((Nat.le_refl _)) ((Nat.le_refl _)) (rfl) ((by omega))) ?_
    rintro e2305 w2305 ⟨rfl, hb2305⟩
    have hR2305 := hR2304.below hb2305
    have hwas := hwas.below hb2305
    have hnow := hnow.below hb2305
    have hrow := hrow.below hb2305
    have hrow2 := hrow2.below hb2305
    refine Back.of (LB true) hR2305 rfl ?_
    refine sim_run 3 [] (hR2305.cast (by kernel_rfl)) (by kernel_rfl) trivial (fun ρ2306 w2306 hm2306 hR2306 => ?_)
    have hag := hag.moved (hm2306.castL (by kernel_rfl))
    have hwas := hwas.moved (hm2306.castL (by kernel_rfl))
    have hnow := hnow.moved (hm2306.castL (by kernel_rfl))
    have hrow := hrow.moved (hm2306.castL (by kernel_rfl))
    have hrow2 := hrow2.moved (hm2306.castL (by kernel_rfl))
    refine sim_ret (LB true) hR2306 (by kernel_rfl) (by kernel_rfl) ?_
    exact ⟨rfl, hR2306.toBelow⟩
    
end Go.Proofs.Ytnfgndapalkbcaa
