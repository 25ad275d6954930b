/-
  PostWhole: what the transaction brings to one key is counted, and compared.
-/
import Derived.Test.YtgbgedaedcofcaaPstU
import Derived.Test.YtgbgedaedcofcaaSameK
namespace Go.Proofs.Ytgbgedaedcofcaa
open Go Go.RowKit
theorem addK_yes {p : List OpP} {j : Nat} {o : OpP} {k : Key} (h : p[j]? = some o) (hk : o.key = k) : addK (p.take (j + 1)) k = addK (p.take j) k + o.amt := by
  unfold addK
  rw [List.take_add_one, h, List.filter_append, List.map_append, sumI_app]
  simp [hk, sumI]
theorem addK_no {p : List OpP} {j : Nat} {o : OpP} {k : Key} (h : p[j]? = some o) (hk : ¬ o.key = k) : addK (p.take (j + 1)) k = addK (p.take j) k := by
  unfold addK
  rw [List.take_add_one, h, List.filter_append, List.map_append, sumI_app]
  simp [hk, sumI]
theorem wrap_wrap (a b : Int) : IntKind.i64.wrap (IntKind.i64.wrap a + b) = IntKind.i64.wrap (a + b) := by
  rw [IntKind.wrap_i64, IntKind.wrap_i64, IntKind.wrap_i64]
  omega
attribute [local irreducible] run goO leaveK someK nextK nextT nextOT nextOD loopBody loopRest loopK fillJ tmplOf tmplJ mergeT At AtO drawOk ordOf gateOf callC callO topOp topO idxOf appOf storeOf clearOf sliceOf calleeOf calleeO topQ idxQ newRowOf resL stepOp seek
set_option maxRecDepth 100000 in
set_option maxHeartbeats 4000000 in
theorem whole_in0 {Q : Exit → Act → World → Prop} {R : Ending → World → Prop} [hB : Body Try.prog Q Try.f12 R] {ρ : Nm} {w0 w : World} {B ga gb g1 g2 np cpp kn ck Bk M : Nat} {Ap : Option Addr} {sa sb : LSt} {p : List OpP} {k : Key} {gb0 ob i : Nat} {xs : List Value} {c wx wy : Int} (hc : c = 0) (kp : PsIn w0 M Ap np cpp p) (hnp : np ≤ 100) (hR : Rel [] w0 ρ [⟨ptrG g1, false⟩, ⟨ptrG g2, false⟩, ⟨[LS k.1, LS k.2], false⟩] w) (ht : LdT ρ [⟨ptrG g1, false⟩, ⟨ptrG g2, false⟩, ⟨[LS k.1, LS k.2], false⟩] w B ga gb sa sb) (hsA : sa.g = g1) (hsB : sb.g = g2) (hrow : Own ρ [⟨ptrG g1, false⟩, ⟨ptrG g2, false⟩, ⟨[LS k.1, LS k.2], false⟩] w Bk 24 2 (.slice (some ⟨gb0, ob, none⟩) kn ck) kn xs) (e2 : ρ 2 = (gb0, ob + i * 2)) (hlt : i < kn) (hkn : kn ≤ 1000000) (hwx : clampV (sum3 (getM sa.l (k.1, k.2))) = wx) (hwy : clampV (sum3 (getM sb.l (k.1, k.2))) = wy) (bx : 0 ≤ wx ∧ wx ≤ 1152921504606846976) (by0 : 0 ≤ wy ∧ wy ≤ 1152921504606846976) (hdf : wx - wy = addK p k) (d : Nat → Value)
    (hfin : ∀ (c' : Cfg) (ρ' : Nm) (w' : World), c'.k = [] → mergeT (tmplJ Try.f12.ntmps 0 [(1, .v (.slice Ap np cpp)), (5, .ptr 0 0), (6, .ptr 1 0), (8, LI c), (10, .v (.slice (some ⟨gb0, ob, none⟩) kn ck)), (11, LI ((i : Int) + 1))]) c'.tmps = c'.tmps → (tmplJ Try.f12.ntmps 0 [(1, .v (.slice Ap np cpp)), (5, .ptr 0 0), (6, .ptr 1 0), (8, LI c), (10, .v (.slice (some ⟨gb0, ob, none⟩) kn ck)), (11, LI ((i : Int) + 1))]).length = c'.tmps.length → Ag 2 ρ ρ' c'.rs → Rel [] w0 ρ' c'.rs w' → c'.rs.take 2 = [⟨ptrG g1, false⟩, ⟨ptrG g2, false⟩] → LdT ρ' c'.rs w' B ga gb sa sb → Own ρ' c'.rs w' Bk 24 2 (.slice (some ⟨gb0, ob, none⟩) kn ck) kn xs → At Try.prog Q c' ρ' w') :
    At Try.prog Q ⟨regK Try.f12 28, fillJ (tmplJ Try.f12.ntmps 0 [(1, .v (.slice Ap np cpp)), (5, .ptr 0 0), (6, .ptr 1 0), (8, LI c), (10, .v (.slice (some ⟨gb0, ob, none⟩) kn ck)), (11, LI i)]) d 0, [⟨ptrG g1, false⟩, ⟨ptrG g2, false⟩, ⟨[LS k.1, LS k.2], false⟩]⟩ ρ w := by
  subst hc
  have hag := Rel.ag_ hR 3 (by kernel_rfl)
  have hag0 := Rel.ag_ hR 2 (by kernel_rfl)
  have lp := kp.rd.2.1
  refine sim_run 8 [] (hR.cast (by kernel_rfl)) (by kernel_rfl) trivial (fun ρ100 w100 hm100 hR100 => ?_)
  have ht := ht.moved (hm100.castL (by kernel_rfl))
  have hrow := hrow.moved (hm100.castL (by kernel_rfl))
  have hag := hag.moved (hm100.castL (by kernel_rfl))
  have hag0 := hag0.moved (hm100.castL (by kernel_rfl))
  
  refine sim_loop (ι := Nat × Int) (T := []) (w0 := w0) (0, 0) [1, 5, 6, 8, 10, 11] (fun x => [(14, LI x.2), (15, LI x.1)]) (fun _ => [⟨ptrG g1, false⟩, ⟨ptrG g2, false⟩, ⟨[LS k.1, LS k.2], false⟩]) (fun x w1 => x.1 ≤ np ∧ x.2 = IntKind.i64.wrap (addK (p.take x.1) k) ∧ LdT ρ100 [⟨ptrG g1, false⟩, ⟨ptrG g2, false⟩, ⟨[LS k.1, LS k.2], false⟩] w1 B ga gb sa sb ∧ Own ρ100 [⟨ptrG g1, false⟩, ⟨ptrG g2, false⟩, ⟨[LS k.1, LS k.2], false⟩] w1 Bk 24 2 (.slice (some ⟨gb0, ob, none⟩) kn ck) kn xs) (fun x => np - x.1) (by kernel_rfl) (by kernel_rfl) ((by assumption : Rel _ _ _ _ _).cast (by kernel_rfl)) ⟨Nat.zero_le _, rfl, ht.castR (by kernel_rfl), hrow.castR (by kernel_rfl)⟩ ?_
  have e2 := (hag.at_ 2 (by omega)).trans e2
  have hag0 := hag0.castR (rs' := [⟨ptrG g1, false⟩, ⟨ptrG g2, false⟩, ⟨[LS k.1, LS k.2], false⟩]) (by kernel_rfl)
  clear ht hrow hag hR100 hm100 hR
  rintro ⟨j, N⟩ d5 w5 hR5 ⟨hj, hN, ht, hrow⟩
  dsimp only at hj hN
  have e0 := ht.ata
  have e1 := ht.atb
  have hag3 := hR5.ag_ 3 (by kernel_rfl)
  by_cases hlt2 : j < np
  · obtain ⟨o, ho⟩ : ∃ o, p[j]? = some o := ⟨_, List.getElem?_eq_getElem (by omega)⟩
    have hx : (p.map OpP.cells)[j]? = some o.cells := by rw [List.getElem?_map, ho]; rfl
    refine sim_see (n := np) o.cells j 3 (by kernel_rfl) hx kp.rd.1 (op_len p) (by omega) hlt2 (Nat.le_refl _) (by simp) hR5 (by kernel_rfl) (fun gp op ρE eA hgT hgl hmE eE hRE => ?_)
    subst eA
    have ht := ht.moved hmE
    have hrow := hrow.moved hmE
    have hag3 := hag3.moved hmE
    have hag := hRE.ag_ 4 (by kernel_rfl)
    have e2 := (hmE.agree 2 (by show 2 < 3; omega)).trans e2
    have e0 := ht.ata
    have e1 := ht.atb
    by_cases hk : o.acc = k.1 ∧ o.asset = k.2
    · have hk1 := hk.1
      have hk2 := hk.2
      have hs : IntKind.i64.wrap (N + o.amt) = IntKind.i64.wrap (addK (p.take (j + 1)) k) := by
        rw [hN, addK_yes ho (Prod.ext hk1 hk2), wrap_wrap]
      refine sim_run 8 [] (hRE.cast (by kernel_rfl)) (by kernel_rfl) trivial (fun ρ200 w200 hm200 hR200 => ?_)
      have ht := ht.moved (hm200.castL (by kernel_rfl))
      have hrow := hrow.moved (hm200.castL (by kernel_rfl))
      have hag3 := hag3.moved (hm200.castL (by kernel_rfl))
      have hag := hag.moved (hm200.castL (by kernel_rfl))
      refine sim_know 150 (decide ((↑(j, N).fst : Int) < (↑np : Int))) true (by kernel_rfl) (decide_eq_true (by omega)) ?_
      refine sim_run 9 [] (hR200.cast (by kernel_rfl)) (by kernel_rfl) trivial (fun ρ201 w201 hm201 hR201 => ?_)
      have ht := ht.moved (hm201.castL (by kernel_rfl))
      have hrow := hrow.moved (hm201.castL (by kernel_rfl))
      have hag3 := hag3.moved (hm201.castL (by kernel_rfl))
      have hag := hag.moved (hm201.castL (by kernel_rfl))
      refine sim_draw [] (by kernel_rfl) (by kernel_rfl) hR201 (fun hR202 => ?_)
      have ht := ht.drew
      have hrow := hrow.drew
      refine sim_ordN 2 [] hR202 (by kernel_rfl) trivial (fun ρ203 w203 hm203 hR203 => ?_)
      have hag3 := hag3.moved (hm203.castL (by kernel_rfl))
      have hag := hag.moved (hm203.castL (by kernel_rfl))
      have ht := ht.moved (hm203.castL (by kernel_rfl))
      have hrow := hrow.moved (hm203.castL (by kernel_rfl))
      refine sim_ord_index (.v (.slice (some ⟨gp, op, none⟩) np cpp)) np 4 j 3 0 (by kernel_rfl) (by omega) (by omega) rfl hR203 (by simp only [Nm.at_, hag.at_ 3 (by omega), eE, Nat.add_zero, Int.toNat_natCast]) (fun hR205 => ?_)
      refine sim_ordN 4 [] hR205 (by kernel_rfl) trivial (fun ρ206 w206 hm206 hR206 => ?_)
      have hag3 := hag3.moved (hm206.castL (by kernel_rfl))
      have hag := hag.moved (hm206.castL (by kernel_rfl))
      have ht := ht.moved (hm206.castL (by kernel_rfl))
      have hrow := hrow.moved (hm206.castL (by kernel_rfl))
      refine sim_ord_index (.v (.slice (some ⟨gb0, ob, none⟩) kn ck)) kn 2 i 2 0 (by kernel_rfl) (by omega) (by omega) rfl hR206 (by simp only [Nm.at_, hag.at_ 2 (by omega), e2, Nat.add_zero, Int.toNat_natCast]) (fun hR207 => ?_)
      refine sim_ordN 2 [] hR207 (by kernel_rfl) trivial (fun ρ208 w208 hm208 hR208 => ?_)
      have hag3 := hag3.moved (hm208.castL (by kernel_rfl))
      have hag := hag.moved (hm208.castL (by kernel_rfl))
      have ht := ht.moved (hm208.castL (by kernel_rfl))
      have hrow := hrow.moved (hm208.castL (by kernel_rfl))
      refine sim_ord_endR hR208 (by kernel_rfl) (fun hR209 => ?_)
      refine sim_know 165 (o.acc == k.fst && (o.asset == k.snd && true)) true (by kernel_rfl) (by simp [ba_dec, hk1, hk2]) ?_
      refine sim_run 5 [] (hR209.cast (by kernel_rfl)) (by kernel_rfl) trivial (fun ρ210 w210 hm210 hR210 => ?_)
      have hag3 := hag3.moved (hm210.castL (by kernel_rfl))
      have hag := hag.moved (hm210.castL (by kernel_rfl))
      have ht := ht.moved (hm210.castL (by kernel_rfl))
      have hrow := hrow.moved (hm210.castL (by kernel_rfl))
      refine sim_place (.v (.slice (some ⟨gp, op, none⟩) np cpp)) np 4 j 3 0 (by kernel_rfl) (by omega) (by omega) rfl (by simp only [Nm.at_, hag.at_ 3 (by omega), eE, Nat.add_zero, Int.toNat_natCast]) ?_
      refine sim_run 11 [⟨31, 1, LI (IntKind.i64.wrap ((↑(j, N).fst : Int) + 1)), LI ((↑(j, N).fst : Int) + 1)⟩] (hR210.cast (by kernel_rfl)) (by kernel_rfl) ⟨eqi (IntWalk.i64_in _ (by omega)), trivial⟩ (fun ρ213 w213 hm213 hR213 => ?_)
      have hag3 := hag3.moved (hm213.castL (by kernel_rfl))
      have hag := hag.moved (hm213.castL (by kernel_rfl))
      have ht := ht.moved (hm213.castL (by kernel_rfl))
      have hrow := hrow.moved (hm213.castL (by kernel_rfl))
      
      exact sim_again (j + 1, IntKind.i64.wrap (N + o.amt)) (by kernel_rfl) (by show np - (j + 1) < np - j; omega) (by kernel_rfl) (by kernel_rfl) (by kernel_rfl) hag3.ag (Rel.cast (by assumption) (by kernel_rfl)) (by kernel_rfl) (by kernel_rfl) ⟨hlt2, hs, ht.cut hag3 (by omega) rfl (by kernel_rfl), hrow.cut hag3 rfl (by kernel_rfl)⟩
    · have hk2 : o.acc = k.1 → ¬ o.asset = k.2 := fun h1 h2 => hk ⟨h1, h2⟩
      have hs : N = IntKind.i64.wrap (addK (p.take (j + 1)) k) := by
        rw [hN, addK_no ho (fun e => hk ⟨congrArg (·.1) e, congrArg (·.2) e⟩)]
      refine sim_run 8 [] (hRE.cast (by kernel_rfl)) (by kernel_rfl) trivial (fun ρ300 w300 hm300 hR300 => ?_)
      have ht := ht.moved (hm300.castL (by kernel_rfl))
      have hrow := hrow.moved (hm300.castL (by kernel_rfl))
      have hag3 := hag3.moved (hm300.castL (by kernel_rfl))
      have hag := hag.moved (hm300.castL (by kernel_rfl))
      refine sim_know 150 (decide ((↑(j, N).fst : Int) < (↑np : Int))) true (by kernel_rfl) (decide_eq_true (by omega)) ?_
      refine sim_run 9 [] (hR300.cast (by kernel_rfl)) (by kernel_rfl) trivial (fun ρ301 w301 hm301 hR301 => ?_)
      have ht := ht.moved (hm301.castL (by kernel_rfl))
      have hrow := hrow.moved (hm301.castL (by kernel_rfl))
      have hag3 := hag3.moved (hm301.castL (by kernel_rfl))
      have hag := hag.moved (hm301.castL (by kernel_rfl))
      refine sim_draw [] (by kernel_rfl) (by kernel_rfl) hR301 (fun hR302 => ?_)
      have ht := ht.drew
      have hrow := hrow.drew
      refine sim_ordN 2 [] hR302 (by kernel_rfl) trivial (fun ρ303 w303 hm303 hR303 => ?_)
      have hag3 := hag3.moved (hm303.castL (by kernel_rfl))
      have hag := hag.moved (hm303.castL (by kernel_rfl))
      have ht := ht.moved (hm303.castL (by kernel_rfl))
      have hrow := hrow.moved (hm303.castL (by kernel_rfl))
      refine sim_ord_index (.v (.slice (some ⟨gp, op, none⟩) np cpp)) np 4 j 3 0 (by kernel_rfl) (by omega) (by omega) rfl hR303 (by simp only [Nm.at_, hag.at_ 3 (by omega), eE, Nat.add_zero, Int.toNat_natCast]) (fun hR305 => ?_)
      refine sim_ordN 4 [] hR305 (by kernel_rfl) trivial (fun ρ306 w306 hm306 hR306 => ?_)
      have hag3 := hag3.moved (hm306.castL (by kernel_rfl))
      have hag := hag.moved (hm306.castL (by kernel_rfl))
      have ht := ht.moved (hm306.castL (by kernel_rfl))
      have hrow := hrow.moved (hm306.castL (by kernel_rfl))
      refine sim_ord_index (.v (.slice (some ⟨gb0, ob, none⟩) kn ck)) kn 2 i 2 0 (by kernel_rfl) (by omega) (by omega) rfl hR306 (by simp only [Nm.at_, hag.at_ 2 (by omega), e2, Nat.add_zero, Int.toNat_natCast]) (fun hR307 => ?_)
      refine sim_ordN 2 [] hR307 (by kernel_rfl) trivial (fun ρ308 w308 hm308 hR308 => ?_)
      have hag3 := hag3.moved (hm308.castL (by kernel_rfl))
      have hag := hag.moved (hm308.castL (by kernel_rfl))
      have ht := ht.moved (hm308.castL (by kernel_rfl))
      have hrow := hrow.moved (hm308.castL (by kernel_rfl))
      refine sim_ord_endR hR308 (by kernel_rfl) (fun hR309 => ?_)
      refine sim_know 165 (o.acc == k.fst && (o.asset == k.snd && true)) false (by kernel_rfl) (by simpa [ba_dec] using hk2) ?_
      refine sim_run 8 [⟨31, 1, LI (IntKind.i64.wrap ((↑(j, N).fst : Int) + 1)), LI ((↑(j, N).fst : Int) + 1)⟩] (hR309.cast (by kernel_rfl)) (by kernel_rfl) ⟨eqi (IntWalk.i64_in _ (by omega)), trivial⟩ (fun ρ310 w310 hm310 hR310 => ?_)
      have hag3 := hag3.moved (hm310.castL (by kernel_rfl))
      have hag := hag.moved (hm310.castL (by kernel_rfl))
      have ht := ht.moved (hm310.castL (by kernel_rfl))
      have hrow := hrow.moved (hm310.castL (by kernel_rfl))
      
      exact sim_again (j + 1, N) (by kernel_rfl) (by show np - (j + 1) < np - j; omega) (by kernel_rfl) (by kernel_rfl) (by kernel_rfl) hag3.ag (Rel.cast (by assumption) (by kernel_rfl)) (by kernel_rfl) (by kernel_rfl) ⟨hlt2, hs, ht.cut hag3 (by omega) rfl (by kernel_rfl), hrow.cut hag3 rfl (by kernel_rfl)⟩
  · have hje : j = np := by omega
    have hNe : N = wx - wy := by
      rw [hN, hdf, hje, List.take_of_length_le (by omega)]
      exact IntWalk.i64_in _ (by omega)
    have hag := hag3
    refine sim_run 8 [] (hR5.cast (by kernel_rfl)) (by kernel_rfl) trivial (fun ρ400 w400 hm400 hR400 => ?_)
    have hag0 := hag0.moved (hm400.castL (by kernel_rfl))
    have ht := ht.moved (hm400.castL (by kernel_rfl))
    have hrow := hrow.moved (hm400.castL (by kernel_rfl))
    have hag3 := hag3.moved (hm400.castL (by kernel_rfl))
    have hag := hag.moved (hm400.castL (by kernel_rfl))
    refine sim_know 150 (decide ((↑(j, N).fst : Int) < (↑np : Int))) false (by kernel_rfl) (decide_eq_false (by omega)) ?_
    refine sim_run 5 [] (hR400.cast (by kernel_rfl)) (by kernel_rfl) trivial (fun ρ401 w401 hm401 hR401 => ?_)
    have hag0 := hag0.moved (hm401.castL (by kernel_rfl))
    have ht := ht.moved (hm401.castL (by kernel_rfl))
    have hrow := hrow.moved (hm401.castL (by kernel_rfl))
    have hag3 := hag3.moved (hm401.castL (by kernel_rfl))
    have hag := hag.moved (hm401.castL (by kernel_rfl))
    refine sim_leave (by kernel_rfl) ?_
    refine sim_run 1 [] (hR401.cast (by kernel_rfl)) (by kernel_rfl) trivial (fun ρ402 w402 hm402 hR402 => ?_)
    have hag0 := hag0.moved (hm402.castL (by kernel_rfl))
    have ht := ht.moved (hm402.castL (by kernel_rfl))
    have hrow := hrow.moved (hm402.castL (by kernel_rfl))
    have hag3 := hag3.moved (hm402.castL (by kernel_rfl))
    have hag := hag.moved (hm402.castL (by kernel_rfl))
    refine sim_draw [] (by kernel_rfl) (by kernel_rfl) hR402 (fun hR403 => ?_)
    have ht := ht.drew
    have hrow := hrow.drew
    refine sim_ordN 9 [] hR403 (by kernel_rfl) trivial (fun ρ404 w404 hm404 hR404 => ?_)
    have hag0 := hag0.moved (hm404.castL (by kernel_rfl))
    have hag3 := hag3.moved (hm404.castL (by kernel_rfl))
    have hag := hag.moved (hm404.castL (by kernel_rfl))
    have ht := ht.moved (hm404.castL (by kernel_rfl))
    have hrow := hrow.moved (hm404.castL (by kernel_rfl))
    refine sim_ord_index (.v (.slice (some ⟨gb0, ob, none⟩) kn ck)) kn 2 i 2 0 (by kernel_rfl) (by omega) (by omega) rfl hR404 (by simp only [Nm.at_, hag.at_ 2 (by omega), e2, Nat.add_zero, Int.toNat_natCast]) (fun hR405 => ?_)
    refine sim_ordN 7 [] hR405 (by kernel_rfl) trivial (fun ρ406 w406 hm406 hR406 => ?_)
    have hag0 := hag0.moved (hm406.castL (by kernel_rfl))
    have hag3 := hag3.moved (hm406.castL (by kernel_rfl))
    have hag := hag.moved (hm406.castL (by kernel_rfl))
    have ht := ht.moved (hm406.castL (by kernel_rfl))
    have hrow := hrow.moved (hm406.castL (by kernel_rfl))
    refine sim_ord_index (.v (.slice (some ⟨gb0, ob, none⟩) kn ck)) kn 2 i 2 0 (by kernel_rfl) (by omega) (by omega) rfl hR406 (by simp only [Nm.at_, hag.at_ 2 (by omega), e2, Nat.add_zero, Int.toNat_natCast]) (fun hR407 => ?_)
    refine sim_ordN 2 [] hR407 (by kernel_rfl) trivial (fun ρ408 w408 hm408 hR408 => ?_)
    have hag0 := hag0.moved (hm408.castL (by kernel_rfl))
    have hag3 := hag3.moved (hm408.castL (by kernel_rfl))
    have hag := hag.moved (hm408.castL (by kernel_rfl))
    have ht := ht.moved (hm408.castL (by kernel_rfl))
    have hrow := hrow.moved (hm408.castL (by kernel_rfl))
    refine sim_ord_call (T := []) (w0 := w0) 22 [.v (Value.pointer (some (Addr.mk g1 0 none))), .agg [LS k.fst, LS k.snd]] (by kernel_rfl) ?_
    refine Calls.mono (whole_po _ _ _ _ _ _ _ _ (pos_g ht.a hsA)) ?_
    first | rw [hwx] | rw [hwy]
    rintro e409 w409 ⟨rfl, hb409⟩
    have hR409 := (hR408).call hb409 (LI wx)
    have ht := ht.below hb409
    have hrow := hrow.below hb409
    refine BackO.of (LI wx) hR409 rfl ?_
    refine sim_ord_call (T := []) (w0 := w0) 22 [.v (Value.pointer (some (Addr.mk g2 0 none))), .agg [LS k.fst, LS k.snd]] (by kernel_rfl) ?_
    refine Calls.mono (whole_po _ _ _ _ _ _ _ _ (pos_g ht.b hsB)) ?_
    first | rw [hwx] | rw [hwy]
    rintro e410 w410 ⟨rfl, hb410⟩
    have hR410 := (hR409).call hb410 (LI wy)
    have ht := ht.below hb410
    have hrow := hrow.below hb410
    refine BackO.of (LI wy) hR410 rfl ?_
    refine sim_ordN 3 [⟨34, 21, LI (IntKind.i64.wrap (wx - wy)), LI (wx - wy)⟩] hR410 (by kernel_rfl) ⟨eqi (IntWalk.i64_in _ (by omega)), trivial⟩ (fun ρ411 w411 hm411 hR411 => ?_)
    have hag0 := hag0.moved (hm411.castL (by kernel_rfl))
    have hag3 := hag3.moved (hm411.castL (by kernel_rfl))
    have hag := hag.moved (hm411.castL (by kernel_rfl))
    have ht := ht.moved (hm411.castL (by kernel_rfl))
    have hrow := hrow.moved (hm411.castL (by kernel_rfl))
    refine sim_ord_endR hR411 (by kernel_rfl) (fun hR412 => ?_)
    refine sim_know 197 (wx - wy != (j, N).snd) false (by kernel_rfl) (by rw [hNe]; exact bne_self_eq_false _) ?_
    refine sim_run 8 [⟨24, 1, LI (IntKind.i64.wrap ((↑i : Int) + 1)), LI ((↑i : Int) + 1)⟩] (hR412.cast (by kernel_rfl)) (by kernel_rfl) ⟨eqi (IntWalk.i64_in _ (by omega)), trivial⟩ (fun ρ413 w413 hm413 hR413 => ?_)
    have hag0 := hag0.moved (hm413.castL (by kernel_rfl))
    have hag3 := hag3.moved (hm413.castL (by kernel_rfl))
    have hag := hag.moved (hm413.castL (by kernel_rfl))
    have ht := ht.moved (hm413.castL (by kernel_rfl))
    have hrow := hrow.moved (hm413.castL (by kernel_rfl))
    
    exact hfin _ _ _ (by kernel_rfl) (by kernel_rfl) (by kernel_rfl) hag0 (by assumption : Rel _ _ _ _ _) (by kernel_rfl) ht hrow
end Go.Proofs.Ytgbgedaedcofcaa
