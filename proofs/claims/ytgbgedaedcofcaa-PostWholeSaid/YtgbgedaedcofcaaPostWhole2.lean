/-
  PostWhole: the keys, one by one.
-/
import Derived.Test.YtgbgedaedcofcaaPostWhole1
namespace Go.Proofs.Ytgbgedaedcofcaa
open Go Go.RowKit
attribute [local irreducible] run goO leaveK someK nextK nextT nextOT nextOD loopBody loopRest loopK fillJ tmplOf tmplJ mergeT At AtO drawOk ordOf gateOf callC callO topOp topO idxOf appOf storeOf clearOf sliceOf calleeOf calleeO topQ idxQ newRowOf resL stepOp seek
set_option maxRecDepth 100000 in
set_option maxHeartbeats 4000000 in
theorem whole_in1 {Q : Exit → Act → World → Prop} {R : Ending → World → Prop} [hB : Body Try.prog Q Try.f12 R] {ρ : Nm} {w0 w : World} {B ga gb g1 g2 np cpp kn ck Bk M : Nat} {Ap : Option Addr} {sa sb : LSt} {p : List OpP} {k : Key} {gb0 ob i : Nat} {xs : List Value} {c : Int} (hc : c ≠ 0) (_ : PsIn w0 M Ap np cpp p) (hnp : np ≤ 100) (hR : Rel [] w0 ρ [⟨ptrG g1, false⟩, ⟨ptrG g2, false⟩, ⟨[LS k.1, LS k.2], false⟩] w) (ht : LdT ρ [⟨ptrG g1, false⟩, ⟨ptrG g2, false⟩, ⟨[LS k.1, LS k.2], false⟩] w B ga gb sa sb) (hrow : Own ρ [⟨ptrG g1, false⟩, ⟨ptrG g2, false⟩, ⟨[LS k.1, LS k.2], false⟩] w Bk 24 2 (.slice (some ⟨gb0, ob, none⟩) kn ck) kn xs) (hlt : i < kn) (hkn : kn ≤ 1000000) (d : Nat → Value)
    (hfin : ∀ (c' : Cfg) (ρ' : Nm) (w' : World), c'.k = [] → mergeT (tmplJ Try.f12.ntmps 0 [(1, .v (.slice Ap np cpp)), (5, .ptr 0 0), (6, .ptr 1 0), (8, LI c), (10, .v (.slice (some ⟨gb0, ob, none⟩) kn ck)), (11, LI ((i : Int) + 1))]) c'.tmps = c'.tmps → (tmplJ Try.f12.ntmps 0 [(1, .v (.slice Ap np cpp)), (5, .ptr 0 0), (6, .ptr 1 0), (8, LI c), (10, .v (.slice (some ⟨gb0, ob, none⟩) kn ck)), (11, LI ((i : Int) + 1))]).length = c'.tmps.length → Ag 2 ρ ρ' c'.rs → Rel [] w0 ρ' c'.rs w' → c'.rs.take 2 = [⟨ptrG g1, false⟩, ⟨ptrG g2, false⟩] → LdT ρ' c'.rs w' B ga gb sa sb → Own ρ' c'.rs w' Bk 24 2 (.slice (some ⟨gb0, ob, none⟩) kn ck) kn xs → At Try.prog Q c' ρ' w') :
    At Try.prog Q ⟨regK Try.f12 28, fillJ (tmplJ Try.f12.ntmps 0 [(1, .v (.slice Ap np cpp)), (5, .ptr 0 0), (6, .ptr 1 0), (8, LI c), (10, .v (.slice (some ⟨gb0, ob, none⟩) kn ck)), (11, LI i)]) d 0, [⟨ptrG g1, false⟩, ⟨ptrG g2, false⟩, ⟨[LS k.1, LS k.2], false⟩]⟩ ρ w := by
  have e0 := ht.ata
  have e1 := ht.atb
  have hag := Rel.ag_ hR 3 (by kernel_rfl)
  have hag0 := Rel.ag_ hR 2 (by kernel_rfl)
  refine sim_run 8 [] (hR.cast (by kernel_rfl)) (by kernel_rfl) trivial (fun ρ3100 w3100 hm3100 hR3100 => ?_)
  have ht := ht.moved (hm3100.castL (by kernel_rfl))
  have hrow := hrow.moved (hm3100.castL (by kernel_rfl))
  have hag := hag.moved (hm3100.castL (by kernel_rfl))
  have hag0 := hag0.moved (hm3100.castL (by kernel_rfl))
  refine sim_unroll 1 (by kernel_rfl) ?_
  refine sim_run 9 [] (hR3100.cast (by kernel_rfl)) (by kernel_rfl) trivial (fun ρ3101 w3101 hm3101 hR3101 => ?_)
  have ht := ht.moved (hm3101.castL (by kernel_rfl))
  have hrow := hrow.moved (hm3101.castL (by kernel_rfl))
  have hag := hag.moved (hm3101.castL (by kernel_rfl))
  have hag0 := hag0.moved (hm3101.castL (by kernel_rfl))
  refine sim_fork 150 (decide (0 < (↑np : Int))) (by kernel_rfl) (fun hq3102 => ?_) (fun hq3102 => ?_)
  have hq3102 := of_decide_eq_true hq3102
  refine sim_run 4 [] (hR3101.cast (by kernel_rfl)) (by kernel_rfl) trivial (fun ρ3103 w3103 hm3103 hR3103 => ?_)
  have ht := ht.moved (hm3103.castL (by kernel_rfl))
  have hrow := hrow.moved (hm3103.castL (by kernel_rfl))
  have hag := hag.moved (hm3103.castL (by kernel_rfl))
  have hag0 := hag0.moved (hm3103.castL (by kernel_rfl))
  refine sim_know 153 (c == 0) false (by kernel_rfl) (decide_eq_false (by omega)) ?_
  refine sim_run 3 [] (hR3103.cast (by kernel_rfl)) (by kernel_rfl) trivial (fun ρ3104 w3104 hm3104 hR3104 => ?_)
  have ht := ht.moved (hm3104.castL (by kernel_rfl))
  have hrow := hrow.moved (hm3104.castL (by kernel_rfl))
  have hag := hag.moved (hm3104.castL (by kernel_rfl))
  have hag0 := hag0.moved (hm3104.castL (by kernel_rfl))
  refine sim_draw [] (by kernel_rfl) (by kernel_rfl) hR3104 (fun hR3105 => ?_)
  have ht := ht.drew
  have hrow := hrow.drew
  refine sim_ordN 3 [] hR3105 (by kernel_rfl) trivial (fun ρ3106 w3106 hm3106 hR3106 => ?_)
  have hag := hag.moved (hm3106.castL (by kernel_rfl))
  have hag0 := hag0.moved (hm3106.castL (by kernel_rfl))
  have ht := ht.moved (hm3106.castL (by kernel_rfl))
  have hrow := hrow.moved (hm3106.castL (by kernel_rfl))
  refine sim_knowO hR3106 175 (c == 0) false (by kernel_rfl) (decide_eq_false (by omega)) (fun hR3107 => ?_)
  refine sim_ordN 22 [] hR3107 (by kernel_rfl) trivial (fun ρ3108 w3108 hm3108 hR3108 => ?_)
  have hag := hag.moved (hm3108.castL (by kernel_rfl))
  have hag0 := hag0.moved (hm3108.castL (by kernel_rfl))
  have ht := ht.moved (hm3108.castL (by kernel_rfl))
  have hrow := hrow.moved (hm3108.castL (by kernel_rfl))
  refine sim_ord_endR hR3108 (by kernel_rfl) (fun hR3109 => ?_)
  refine sim_run 8 [⟨24, 1, LI (IntKind.i64.wrap ((↑i : Int) + 1)), LI ((↑i : Int) + 1)⟩] (hR3109.cast (by kernel_rfl)) (by kernel_rfl) ⟨eqi (IntWalk.i64_in _ (by omega)), trivial⟩ (fun ρ3110 w3110 hm3110 hR3110 => ?_)
  have hag := hag.moved (hm3110.castL (by kernel_rfl))
  have hag0 := hag0.moved (hm3110.castL (by kernel_rfl))
  have ht := ht.moved (hm3110.castL (by kernel_rfl))
  have hrow := hrow.moved (hm3110.castL (by kernel_rfl))
  rotate_left
  have hq3102 := of_decide_eq_false hq3102
  refine sim_run 7 [] (hR3101.cast (by kernel_rfl)) (by kernel_rfl) trivial (fun ρ3111 w3111 hm3111 hR3111 => ?_)
  have ht := ht.moved (hm3111.castL (by kernel_rfl))
  have hrow := hrow.moved (hm3111.castL (by kernel_rfl))
  have hag := hag.moved (hm3111.castL (by kernel_rfl))
  have hag0 := hag0.moved (hm3111.castL (by kernel_rfl))
  refine sim_draw [] (by kernel_rfl) (by kernel_rfl) hR3111 (fun hR3112 => ?_)
  have ht := ht.drew
  have hrow := hrow.drew
  refine sim_ordN 3 [] hR3112 (by kernel_rfl) trivial (fun ρ3113 w3113 hm3113 hR3113 => ?_)
  have hag := hag.moved (hm3113.castL (by kernel_rfl))
  have hag0 := hag0.moved (hm3113.castL (by kernel_rfl))
  have ht := ht.moved (hm3113.castL (by kernel_rfl))
  have hrow := hrow.moved (hm3113.castL (by kernel_rfl))
  refine sim_knowO hR3113 175 (c == 0) false (by kernel_rfl) (decide_eq_false (by omega)) (fun hR3114 => ?_)
  refine sim_ordN 22 [] hR3114 (by kernel_rfl) trivial (fun ρ3115 w3115 hm3115 hR3115 => ?_)
  have hag := hag.moved (hm3115.castL (by kernel_rfl))
  have hag0 := hag0.moved (hm3115.castL (by kernel_rfl))
  have ht := ht.moved (hm3115.castL (by kernel_rfl))
  have hrow := hrow.moved (hm3115.castL (by kernel_rfl))
  refine sim_ord_endR hR3115 (by kernel_rfl) (fun hR3116 => ?_)
  refine sim_run 8 [⟨24, 1, LI (IntKind.i64.wrap ((↑i : Int) + 1)), LI ((↑i : Int) + 1)⟩] (hR3116.cast (by kernel_rfl)) (by kernel_rfl) ⟨eqi (IntWalk.i64_in _ (by omega)), trivial⟩ (fun ρ3117 w3117 hm3117 hR3117 => ?_)
  have hag := hag.moved (hm3117.castL (by kernel_rfl))
  have hag0 := hag0.moved (hm3117.castL (by kernel_rfl))
  have ht := ht.moved (hm3117.castL (by kernel_rfl))
  have hrow := hrow.moved (hm3117.castL (by kernel_rfl))
  rotate_left
  
  all_goals exact hfin _ _ _ (by kernel_rfl) (by kernel_rfl) (by kernel_rfl) hag0 (by assumption : Rel _ _ _ _ _) (by kernel_rfl) ht hrow
set_option maxRecDepth 100000 in
set_option maxHeartbeats 4000000 in
theorem whole_26a {Q : Exit → Act → World → Prop} {R : Ending → World → Prop} [hB : Body Try.prog Q Try.f12 R] {ρ : Nm} {w0 w : World} {B ga gb g1 g2 np cpp kn ck Bk M : Nat} {Ap : Option Addr} {sa sb : LSt} {p : List OpP} {k : Key} {gb0 ob i : Nat} {xs : List Value} {c wx wy a1 a2 a3 b1 b2 b3 : Int} (kp : PsIn w0 M Ap np cpp p) (hnp : np ≤ 100) (hR : Rel [] w0 ρ [⟨ptrG g1, false⟩, ⟨ptrG g2, false⟩, ⟨[LS k.1, LS k.2], false⟩, ⟨[LI a1, LI a2, LI a3], true⟩, ⟨[LI b1, LI b2, LI b3], true⟩] w) (ht : LdT ρ [⟨ptrG g1, false⟩, ⟨ptrG g2, false⟩, ⟨[LS k.1, LS k.2], false⟩, ⟨[LI a1, LI a2, LI a3], true⟩, ⟨[LI b1, LI b2, LI b3], true⟩] w B ga gb sa sb) (hsA : sa.g = g1) (hsB : sb.g = g2) (hrow : Own ρ [⟨ptrG g1, false⟩, ⟨ptrG g2, false⟩, ⟨[LS k.1, LS k.2], false⟩, ⟨[LI a1, LI a2, LI a3], true⟩, ⟨[LI b1, LI b2, LI b3], true⟩] w Bk 24 2 (.slice (some ⟨gb0, ob, none⟩) kn ck) kn xs) (e2 : ρ 2 = (gb0, ob + i * 2)) (hlt : i < kn) (hkn : kn ≤ 1000000) (hwx : clampV (sum3 (getM sa.l (k.1, k.2))) = wx) (hwy : clampV (sum3 (getM sb.l (k.1, k.2))) = wy) (bx : 0 ≤ wx ∧ wx ≤ 1152921504606846976) (by0 : 0 ≤ wy ∧ wy ≤ 1152921504606846976) (hdf : c = 0 → wx - wy = addK p k) (hsame : c ≠ 0 → a1 = b1 ∧ a2 = b2 ∧ a3 = b3) (d : Nat → Value)
    (hfin : ∀ (c' : Cfg) (ρ' : Nm) (w' : World), c'.k = [] → mergeT (tmplJ Try.f12.ntmps 0 [(1, .v (.slice Ap np cpp)), (5, .ptr 0 0), (6, .ptr 1 0), (8, LI c), (10, .v (.slice (some ⟨gb0, ob, none⟩) kn ck)), (11, LI ((i : Int) + 1))]) c'.tmps = c'.tmps → (tmplJ Try.f12.ntmps 0 [(1, .v (.slice Ap np cpp)), (5, .ptr 0 0), (6, .ptr 1 0), (8, LI c), (10, .v (.slice (some ⟨gb0, ob, none⟩) kn ck)), (11, LI ((i : Int) + 1))]).length = c'.tmps.length → Ag 2 ρ ρ' c'.rs → Rel [] w0 ρ' c'.rs w' → c'.rs.take 2 = [⟨ptrG g1, false⟩, ⟨ptrG g2, false⟩] → LdT ρ' c'.rs w' B ga gb sa sb → Own ρ' c'.rs w' Bk 24 2 (.slice (some ⟨gb0, ob, none⟩) kn ck) kn xs → At Try.prog Q c' ρ' w') :
    At Try.prog Q ⟨regK Try.f12 26, fillJ (tmplJ Try.f12.ntmps 0 [(1, .v (.slice Ap np cpp)), (5, .ptr 0 0), (6, .ptr 1 0), (8, LI c), (10, .v (.slice (some ⟨gb0, ob, none⟩) kn ck)), (11, LI i), (12, .ptr 3 0), (13, .ptr 4 0)]) d 0, [⟨ptrG g1, false⟩, ⟨ptrG g2, false⟩, ⟨[LS k.1, LS k.2], false⟩, ⟨[LI a1, LI a2, LI a3], true⟩, ⟨[LI b1, LI b2, LI b3], true⟩]⟩ ρ w := by
  have e0 := ht.ata
  have e1 := ht.atb
  have hag0 := Rel.ag_ hR 2 (by kernel_rfl)
  have hag3 := Rel.ag_ hR 3 (by kernel_rfl)
  by_cases hc : c = 0
  · subst hc
    refine sim_run 12 [] (hR.cast (by kernel_rfl)) (by kernel_rfl) trivial (fun ρ1100 w1100 hm1100 hR1100 => ?_)
    have ht := ht.moved (hm1100.castL (by kernel_rfl))
    have hrow := hrow.moved (hm1100.castL (by kernel_rfl))
    have hag0 := hag0.moved (hm1100.castL (by kernel_rfl))
    have hag3 := hag3.moved (hm1100.castL (by kernel_rfl))
    
    have hRn := (by assumption : Rel _ _ _ _ _).cast (rs' := [⟨ptrG g1, false⟩, ⟨ptrG g2, false⟩, ⟨[LS k.1, LS k.2], false⟩, ⟨[LI a1, LI a2, LI a3], true⟩, ⟨[LI b1, LI b2, LI b3], true⟩]) (by kernel_rfl)
    have hagN := hRn.ag_ 3 (by kernel_rfl)
    have hR2 : Rel [] w0 _ [⟨ptrG g1, false⟩, ⟨ptrG g2, false⟩, ⟨[LS k.1, LS k.2], false⟩] _ := hRn.cut rfl (Agree.refl _ _) (by kernel_rfl)
    have ht2 := (ht.castR (rs' := [⟨ptrG g1, false⟩, ⟨ptrG g2, false⟩, ⟨[LS k.1, LS k.2], false⟩, ⟨[LI a1, LI a2, LI a3], true⟩, ⟨[LI b1, LI b2, LI b3], true⟩]) (by kernel_rfl)).cut (rs := [⟨ptrG g1, false⟩, ⟨ptrG g2, false⟩, ⟨[LS k.1, LS k.2], false⟩]) hagN (by omega) rfl rfl
    have hrow2 := (hrow.castR (rs' := [⟨ptrG g1, false⟩, ⟨ptrG g2, false⟩, ⟨[LS k.1, LS k.2], false⟩, ⟨[LI a1, LI a2, LI a3], true⟩, ⟨[LI b1, LI b2, LI b3], true⟩]) (by kernel_rfl)).cut (rs := [⟨ptrG g1, false⟩, ⟨ptrG g2, false⟩, ⟨[LS k.1, LS k.2], false⟩]) hagN rfl rfl
    refine sim_to (regK Try.f12 28) (tmplJ Try.f12.ntmps 0 [(1, .v (.slice Ap np cpp)), (5, .ptr 0 0), (6, .ptr 1 0), (8, LI 0), (10, .v (.slice (some ⟨gb0, ob, none⟩) kn ck)), (11, LI i)]) [⟨ptrG g1, false⟩, ⟨ptrG g2, false⟩, ⟨[LS k.1, LS k.2], false⟩] (by kernel_rfl) (by kernel_rfl) (by kernel_rfl) (fun d2 => ?_)
    exact whole_in0 (c := 0) rfl kp hnp hR2 ht2 hsA hsB hrow2 ((hag3.at_ 2 (by omega)).trans e2) hlt hkn hwx hwy bx by0 (hdf rfl) d2 (fun c' ρ' w' hk' hm' hl' hag' hR' htk ht' hrow' => hfin c' ρ' w' hk' hm' hl' ⟨hag0.ag.trans hag'.ag (by omega), hag'.le⟩ hR' htk ht' hrow')
  · obtain ⟨rfl, rfl, rfl⟩ := hsame hc
    refine sim_run 3 [] (hR.cast (by kernel_rfl)) (by kernel_rfl) trivial (fun ρ1200 w1200 hm1200 hR1200 => ?_)
    have ht := ht.moved (hm1200.castL (by kernel_rfl))
    have hrow := hrow.moved (hm1200.castL (by kernel_rfl))
    have hag0 := hag0.moved (hm1200.castL (by kernel_rfl))
    have hag3 := hag3.moved (hm1200.castL (by kernel_rfl))
    refine sim_know 141 (c != 0) true (by kernel_rfl) (bne_iff_ne.2 hc) ?_
    refine sim_run 5 [] (hR1200.cast (by kernel_rfl)) (by kernel_rfl) trivial (fun ρ1201 w1201 hm1201 hR1201 => ?_)
    have ht := ht.moved (hm1201.castL (by kernel_rfl))
    have hrow := hrow.moved (hm1201.castL (by kernel_rfl))
    have hag0 := hag0.moved (hm1201.castL (by kernel_rfl))
    have hag3 := hag3.moved (hm1201.castL (by kernel_rfl))
    refine sim_know 145 (!(a1 == a1 && (a2 == a2 && (a3 == a3 && true)))) false (by kernel_rfl) (by simp) ?_
    refine sim_run 4 [] (hR1201.cast (by kernel_rfl)) (by kernel_rfl) trivial (fun ρ1202 w1202 hm1202 hR1202 => ?_)
    have ht := ht.moved (hm1202.castL (by kernel_rfl))
    have hrow := hrow.moved (hm1202.castL (by kernel_rfl))
    have hag0 := hag0.moved (hm1202.castL (by kernel_rfl))
    have hag3 := hag3.moved (hm1202.castL (by kernel_rfl))
    
    have hRn := (by assumption : Rel _ _ _ _ _).cast (rs' := [⟨ptrG g1, false⟩, ⟨ptrG g2, false⟩, ⟨[LS k.1, LS k.2], false⟩, ⟨[LI a1, LI a2, LI a3], true⟩, ⟨[LI a1, LI a2, LI a3], true⟩]) (by kernel_rfl)
    have hagN := hRn.ag_ 3 (by kernel_rfl)
    have hR2 : Rel [] w0 _ [⟨ptrG g1, false⟩, ⟨ptrG g2, false⟩, ⟨[LS k.1, LS k.2], false⟩] _ := hRn.cut rfl (Agree.refl _ _) (by kernel_rfl)
    have ht2 := (ht.castR (rs' := [⟨ptrG g1, false⟩, ⟨ptrG g2, false⟩, ⟨[LS k.1, LS k.2], false⟩, ⟨[LI a1, LI a2, LI a3], true⟩, ⟨[LI a1, LI a2, LI a3], true⟩]) (by kernel_rfl)).cut (rs := [⟨ptrG g1, false⟩, ⟨ptrG g2, false⟩, ⟨[LS k.1, LS k.2], false⟩]) hagN (by omega) rfl rfl
    have hrow2 := (hrow.castR (rs' := [⟨ptrG g1, false⟩, ⟨ptrG g2, false⟩, ⟨[LS k.1, LS k.2], false⟩, ⟨[LI a1, LI a2, LI a3], true⟩, ⟨[LI a1, LI a2, LI a3], true⟩]) (by kernel_rfl)).cut (rs := [⟨ptrG g1, false⟩, ⟨ptrG g2, false⟩, ⟨[LS k.1, LS k.2], false⟩]) hagN rfl rfl
    refine sim_to (regK Try.f12 28) (tmplJ Try.f12.ntmps 0 [(1, .v (.slice Ap np cpp)), (5, .ptr 0 0), (6, .ptr 1 0), (8, LI c), (10, .v (.slice (some ⟨gb0, ob, none⟩) kn ck)), (11, LI i)]) [⟨ptrG g1, false⟩, ⟨ptrG g2, false⟩, ⟨[LS k.1, LS k.2], false⟩] (by kernel_rfl) (by kernel_rfl) (by kernel_rfl) (fun d2 => ?_)
    exact whole_in1 hc kp hnp hR2 ht2 hrow2 hlt hkn d2 (fun c' ρ' w' hk' hm' hl' hag' hR' htk ht' hrow' => hfin c' ρ' w' hk' hm' hl' ⟨hag0.ag.trans hag'.ag (by omega), hag'.le⟩ hR' htk ht' hrow')
set_option maxRecDepth 100000 in
set_option maxHeartbeats 4000000 in
theorem whole_26b {Q : Exit → Act → World → Prop} {R : Ending → World → Prop} [hB : Body Try.prog Q Try.f12 R] {ρ : Nm} {w0 w : World} {B ga gb g1 g2 np cpp kn ck Bk M : Nat} {Ap : Option Addr} {sa sb : LSt} {p : List OpP} {k : Key} {gb0 ob i : Nat} {xs : List Value} {c wx wy a1 a2 a3 b1 b2 b3 : Int} (kp : PsIn w0 M Ap np cpp p) (hnp : np ≤ 100) (hR : Rel [] w0 ρ [⟨ptrG g1, false⟩, ⟨ptrG g2, false⟩, ⟨[LS k.1, LS k.2], false⟩, ⟨[LI b1, LI b2, LI b3], true⟩, ⟨[LI a1, LI a2, LI a3], true⟩] w) (ht : LdT ρ [⟨ptrG g1, false⟩, ⟨ptrG g2, false⟩, ⟨[LS k.1, LS k.2], false⟩, ⟨[LI b1, LI b2, LI b3], true⟩, ⟨[LI a1, LI a2, LI a3], true⟩] w B ga gb sa sb) (hsA : sa.g = g1) (hsB : sb.g = g2) (hrow : Own ρ [⟨ptrG g1, false⟩, ⟨ptrG g2, false⟩, ⟨[LS k.1, LS k.2], false⟩, ⟨[LI b1, LI b2, LI b3], true⟩, ⟨[LI a1, LI a2, LI a3], true⟩] w Bk 24 2 (.slice (some ⟨gb0, ob, none⟩) kn ck) kn xs) (e2 : ρ 2 = (gb0, ob + i * 2)) (hlt : i < kn) (hkn : kn ≤ 1000000) (hwx : clampV (sum3 (getM sa.l (k.1, k.2))) = wx) (hwy : clampV (sum3 (getM sb.l (k.1, k.2))) = wy) (bx : 0 ≤ wx ∧ wx ≤ 1152921504606846976) (by0 : 0 ≤ wy ∧ wy ≤ 1152921504606846976) (hdf : c = 0 → wx - wy = addK p k) (hsame : c ≠ 0 → a1 = b1 ∧ a2 = b2 ∧ a3 = b3) (d : Nat → Value)
    (hfin : ∀ (c' : Cfg) (ρ' : Nm) (w' : World), c'.k = [] → mergeT (tmplJ Try.f12.ntmps 0 [(1, .v (.slice Ap np cpp)), (5, .ptr 0 0), (6, .ptr 1 0), (8, LI c), (10, .v (.slice (some ⟨gb0, ob, none⟩) kn ck)), (11, LI ((i : Int) + 1))]) c'.tmps = c'.tmps → (tmplJ Try.f12.ntmps 0 [(1, .v (.slice Ap np cpp)), (5, .ptr 0 0), (6, .ptr 1 0), (8, LI c), (10, .v (.slice (some ⟨gb0, ob, none⟩) kn ck)), (11, LI ((i : Int) + 1))]).length = c'.tmps.length → Ag 2 ρ ρ' c'.rs → Rel [] w0 ρ' c'.rs w' → c'.rs.take 2 = [⟨ptrG g1, false⟩, ⟨ptrG g2, false⟩] → LdT ρ' c'.rs w' B ga gb sa sb → Own ρ' c'.rs w' Bk 24 2 (.slice (some ⟨gb0, ob, none⟩) kn ck) kn xs → At Try.prog Q c' ρ' w') :
    At Try.prog Q ⟨regK Try.f12 26, fillJ (tmplJ Try.f12.ntmps 0 [(1, .v (.slice Ap np cpp)), (5, .ptr 0 0), (6, .ptr 1 0), (8, LI c), (10, .v (.slice (some ⟨gb0, ob, none⟩) kn ck)), (11, LI i), (12, .ptr 4 0), (13, .ptr 3 0)]) d 0, [⟨ptrG g1, false⟩, ⟨ptrG g2, false⟩, ⟨[LS k.1, LS k.2], false⟩, ⟨[LI b1, LI b2, LI b3], true⟩, ⟨[LI a1, LI a2, LI a3], true⟩]⟩ ρ w := by
  have e0 := ht.ata
  have e1 := ht.atb
  have hag0 := Rel.ag_ hR 2 (by kernel_rfl)
  have hag3 := Rel.ag_ hR 3 (by kernel_rfl)
  by_cases hc : c = 0
  · subst hc
    refine sim_run 12 [] (hR.cast (by kernel_rfl)) (by kernel_rfl) trivial (fun ρ2100 w2100 hm2100 hR2100 => ?_)
    have ht := ht.moved (hm2100.castL (by kernel_rfl))
    have hrow := hrow.moved (hm2100.castL (by kernel_rfl))
    have hag0 := hag0.moved (hm2100.castL (by kernel_rfl))
    have hag3 := hag3.moved (hm2100.castL (by kernel_rfl))
    
    have hRn := (by assumption : Rel _ _ _ _ _).cast (rs' := [⟨ptrG g1, false⟩, ⟨ptrG g2, false⟩, ⟨[LS k.1, LS k.2], false⟩, ⟨[LI b1, LI b2, LI b3], true⟩, ⟨[LI a1, LI a2, LI a3], true⟩]) (by kernel_rfl)
    have hagN := hRn.ag_ 3 (by kernel_rfl)
    have hR2 : Rel [] w0 _ [⟨ptrG g1, false⟩, ⟨ptrG g2, false⟩, ⟨[LS k.1, LS k.2], false⟩] _ := hRn.cut rfl (Agree.refl _ _) (by kernel_rfl)
    have ht2 := (ht.castR (rs' := [⟨ptrG g1, false⟩, ⟨ptrG g2, false⟩, ⟨[LS k.1, LS k.2], false⟩, ⟨[LI b1, LI b2, LI b3], true⟩, ⟨[LI a1, LI a2, LI a3], true⟩]) (by kernel_rfl)).cut (rs := [⟨ptrG g1, false⟩, ⟨ptrG g2, false⟩, ⟨[LS k.1, LS k.2], false⟩]) hagN (by omega) rfl rfl
    have hrow2 := (hrow.castR (rs' := [⟨ptrG g1, false⟩, ⟨ptrG g2, false⟩, ⟨[LS k.1, LS k.2], false⟩, ⟨[LI b1, LI b2, LI b3], true⟩, ⟨[LI a1, LI a2, LI a3], true⟩]) (by kernel_rfl)).cut (rs := [⟨ptrG g1, false⟩, ⟨ptrG g2, false⟩, ⟨[LS k.1, LS k.2], false⟩]) hagN rfl rfl
    refine sim_to (regK Try.f12 28) (tmplJ Try.f12.ntmps 0 [(1, .v (.slice Ap np cpp)), (5, .ptr 0 0), (6, .ptr 1 0), (8, LI 0), (10, .v (.slice (some ⟨gb0, ob, none⟩) kn ck)), (11, LI i)]) [⟨ptrG g1, false⟩, ⟨ptrG g2, false⟩, ⟨[LS k.1, LS k.2], false⟩] (by kernel_rfl) (by kernel_rfl) (by kernel_rfl) (fun d2 => ?_)
    exact whole_in0 (c := 0) rfl kp hnp hR2 ht2 hsA hsB hrow2 ((hag3.at_ 2 (by omega)).trans e2) hlt hkn hwx hwy bx by0 (hdf rfl) d2 (fun c' ρ' w' hk' hm' hl' hag' hR' htk ht' hrow' => hfin c' ρ' w' hk' hm' hl' ⟨hag0.ag.trans hag'.ag (by omega), hag'.le⟩ hR' htk ht' hrow')
  · obtain ⟨rfl, rfl, rfl⟩ := hsame hc
    refine sim_run 3 [] (hR.cast (by kernel_rfl)) (by kernel_rfl) trivial (fun ρ2200 w2200 hm2200 hR2200 => ?_)
    have ht := ht.moved (hm2200.castL (by kernel_rfl))
    have hrow := hrow.moved (hm2200.castL (by kernel_rfl))
    have hag0 := hag0.moved (hm2200.castL (by kernel_rfl))
    have hag3 := hag3.moved (hm2200.castL (by kernel_rfl))
    refine sim_know 141 (c != 0) true (by kernel_rfl) (bne_iff_ne.2 hc) ?_
    refine sim_run 5 [] (hR2200.cast (by kernel_rfl)) (by kernel_rfl) trivial (fun ρ2201 w2201 hm2201 hR2201 => ?_)
    have ht := ht.moved (hm2201.castL (by kernel_rfl))
    have hrow := hrow.moved (hm2201.castL (by kernel_rfl))
    have hag0 := hag0.moved (hm2201.castL (by kernel_rfl))
    have hag3 := hag3.moved (hm2201.castL (by kernel_rfl))
    refine sim_know 145 (!(a1 == a1 && (a2 == a2 && (a3 == a3 && true)))) false (by kernel_rfl) (by simp) ?_
    refine sim_run 4 [] (hR2201.cast (by kernel_rfl)) (by kernel_rfl) trivial (fun ρ2202 w2202 hm2202 hR2202 => ?_)
    have ht := ht.moved (hm2202.castL (by kernel_rfl))
    have hrow := hrow.moved (hm2202.castL (by kernel_rfl))
    have hag0 := hag0.moved (hm2202.castL (by kernel_rfl))
    have hag3 := hag3.moved (hm2202.castL (by kernel_rfl))
    
    have hRn := (by assumption : Rel _ _ _ _ _).cast (rs' := [⟨ptrG g1, false⟩, ⟨ptrG g2, false⟩, ⟨[LS k.1, LS k.2], false⟩, ⟨[LI a1, LI a2, LI a3], true⟩, ⟨[LI a1, LI a2, LI a3], true⟩]) (by kernel_rfl)
    have hagN := hRn.ag_ 3 (by kernel_rfl)
    have hR2 : Rel [] w0 _ [⟨ptrG g1, false⟩, ⟨ptrG g2, false⟩, ⟨[LS k.1, LS k.2], false⟩] _ := hRn.cut rfl (Agree.refl _ _) (by kernel_rfl)
    have ht2 := (ht.castR (rs' := [⟨ptrG g1, false⟩, ⟨ptrG g2, false⟩, ⟨[LS k.1, LS k.2], false⟩, ⟨[LI a1, LI a2, LI a3], true⟩, ⟨[LI a1, LI a2, LI a3], true⟩]) (by kernel_rfl)).cut (rs := [⟨ptrG g1, false⟩, ⟨ptrG g2, false⟩, ⟨[LS k.1, LS k.2], false⟩]) hagN (by omega) rfl rfl
    have hrow2 := (hrow.castR (rs' := [⟨ptrG g1, false⟩, ⟨ptrG g2, false⟩, ⟨[LS k.1, LS k.2], false⟩, ⟨[LI a1, LI a2, LI a3], true⟩, ⟨[LI a1, LI a2, LI a3], true⟩]) (by kernel_rfl)).cut (rs := [⟨ptrG g1, false⟩, ⟨ptrG g2, false⟩, ⟨[LS k.1, LS k.2], false⟩]) hagN rfl rfl
    refine sim_to (regK Try.f12 28) (tmplJ Try.f12.ntmps 0 [(1, .v (.slice Ap np cpp)), (5, .ptr 0 0), (6, .ptr 1 0), (8, LI c), (10, .v (.slice (some ⟨gb0, ob, none⟩) kn ck)), (11, LI i)]) [⟨ptrG g1, false⟩, ⟨ptrG g2, false⟩, ⟨[LS k.1, LS k.2], false⟩] (by kernel_rfl) (by kernel_rfl) (by kernel_rfl) (fun d2 => ?_)
    exact whole_in1 hc kp hnp hR2 ht2 hrow2 hlt hkn d2 (fun c' ρ' w' hk' hm' hl' hag' hR' htk ht' hrow' => hfin c' ρ' w' hk' hm' hl' ⟨hag0.ag.trans hag'.ag (by omega), hag'.le⟩ hR' htk ht' hrow')
end Go.Proofs.Ytgbgedaedcofcaa
