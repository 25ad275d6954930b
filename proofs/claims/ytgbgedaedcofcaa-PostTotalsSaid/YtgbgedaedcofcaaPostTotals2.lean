/-
  PostTotals: behind each step, what is looked at for each key, and for the step's asset.
-/
import Derived.Test.YtgbgedaedcofcaaPostTotals1
namespace Go.Proofs.Ytgbgedaedcofcaa
open Go Go.RowKit
attribute [local irreducible] run goO leaveK someK nextK nextT nextOT nextOD loopBody loopRest loopK fillJ tmplOf tmplJ mergeT At AtO drawOk ordOf gateOf callC callO topOp topO idxOf appOf storeOf clearOf sliceOf calleeOf calleeO topQ idxQ newRowOf resL stepOp seek
set_option maxRecDepth 100000 in
set_option maxHeartbeats 4000000 in
theorem totals_loop {Q : Exit → Act → World → Prop} {R : Ending → World → Prop} [hB : Body Try.prog Q Try.f10 R] {ρb ρ : Nm} {w0 w : World} {B gl g Bk : Nat} {s : LSt} {o : OpL} {SL : Value} {i cp : Nat} {less : Int} {A : Option Addr} {ks : List Key} (hR : Rel [] w0 ρ [⟨ptrG g, false⟩, ⟨o.cells.map .v, false⟩, ⟨o.cells.map .v, true⟩] w) (hld : LdO ρ [⟨ptrG g, false⟩, ⟨o.cells.map .v, false⟩, ⟨o.cells.map .v, true⟩] w B gl s) (hsg : s.g = g) (hrow : Own ρ [⟨ptrG g, false⟩, ⟨o.cells.map .v, false⟩, ⟨o.cells.map .v, true⟩] w Bk 24 2 (.slice A ks.length cp) ks.length (ks.map encL).flatten) (hlen : s.l.length ≤ 1000000) (hkn : ks.length ≤ 1000000) (htot : ∀ c, clampV (sumI (allOf s.l (sortKs (pickKs [c] s.l)))) = (look c s.li).getD 0) (hi : i ≤ 1000000) (hagb : Ag 1 ρb ρ [⟨ptrG g, false⟩, ⟨o.cells.map .v, false⟩, ⟨o.cells.map .v, true⟩]) (d : Nat → Value)
    (hfin : ∀ (c' : Cfg) (ρ' : Nm) (w' : World), c'.k = [] → mergeT (tmplJ Try.f10.ntmps 0 [(0, .v SL), (3, .ptr 0 0), (4, LI less), (5, LI ((i : Int) + 1))]) c'.tmps = c'.tmps → (tmplJ Try.f10.ntmps 0 [(0, .v SL), (3, .ptr 0 0), (4, LI less), (5, LI ((i : Int) + 1))]).length = c'.tmps.length → Ag 1 ρb ρ' c'.rs → Rel [] w0 ρ' c'.rs w' → c'.rs.take 1 = [⟨ptrG g, false⟩] → LdO ρ' c'.rs w' B gl s → At Try.prog Q c' ρ' w') :
    At Try.prog Q ⟨regK Try.f10 23, fillJ (tmplJ Try.f10.ntmps 0 [(0, .v SL), (3, .ptr 0 0), (4, LI less), (5, LI i), (6, .ptr 2 0), (7, .v (.slice A ks.length cp))]) d 0, [⟨ptrG g, false⟩, ⟨o.cells.map .v, false⟩, ⟨o.cells.map .v, true⟩]⟩ ρ w := by
  have e0 := hld.at_
  have hag := Rel.ag_ hR 3 (by kernel_rfl)
  refine sim_run 3 [] (hR.cast (by kernel_rfl)) (by kernel_rfl) trivial (fun ρ300 w300 hm300 hR300 => ?_)
  have hld := hld.moved (hm300.castL (by kernel_rfl))
  have hrow := hrow.moved (hm300.castL (by kernel_rfl))
  have hagb := hagb.moved (hm300.castL (by kernel_rfl))
  have hag := hag.moved (hm300.castL (by kernel_rfl))
  
  refine sim_loop (ι := Nat) (T := []) (w0 := w0) 0 [0, 3, 4, 5, 6, 7] (fun j => [(8, LI j)]) (fun _ => [⟨ptrG g, false⟩, ⟨o.cells.map .v, false⟩, ⟨o.cells.map .v, true⟩]) (fun j w1 => j ≤ ks.length ∧ LdO ρ300 [⟨ptrG g, false⟩, ⟨o.cells.map .v, false⟩, ⟨o.cells.map .v, true⟩] w1 B gl s ∧ Own ρ300 [⟨ptrG g, false⟩, ⟨o.cells.map .v, false⟩, ⟨o.cells.map .v, true⟩] w1 Bk 24 2 (.slice A ks.length cp) ks.length (ks.map encL).flatten) (fun j => ks.length - j) (by kernel_rfl) (by kernel_rfl) ((by assumption : Rel _ _ _ _ _).cast (by kernel_rfl)) ⟨Nat.zero_le _, hld.castR (by kernel_rfl), hrow.castR (by kernel_rfl)⟩ ?_
  have hagb1 : Agree 1 ρb ρ300 := hagb.ag
  clear hagb
  clear hld hrow hag hR300
  rintro j d5 w5 hR5 ⟨hj, hld, hrow⟩
  have e0 := hld.at_
  have hag3 := hR5.ag_ 3 (by kernel_rfl)
  by_cases hlt : j < ks.length
  · obtain ⟨k, hk⟩ : ∃ k, ks[j]? = some k := ⟨_, List.getElem?_eq_getElem hlt⟩
    obtain ⟨⟨b1, b2, b3⟩, hb⟩ : ∃ b, getM s.l (k.1, k.2) = b := ⟨_, rfl⟩
    have hbo := getM_ok hld.ld.pos.ok (k.1, k.2)
    rw [hb] at hbo
    obtain ⟨hb1, hb2, hb3⟩ := hbo
    obtain ⟨gb, ob, hA, _, _⟩ := (Reads.of_own hrow.own).spot (by omega) (by omega)
    subst hA
    refine sim_seeO (xss := ks.map encL) (sz := 2) (n := ks.length) [.string k.1, .string k.2] j 3 (by kernel_rfl) (by rw [List.getElem?_map, hk]; rfl) hrow (encL_len ks) (by omega) hlt hR5 (by kernel_rfl) (fun ρF hmF e3 hRF => ?_)
    have hld := hld.moved hmF
    have hrow := hrow.moved hmF
    have hag3 := hag3.moved hmF
    have hag := hRF.ag_ 4 (by kernel_rfl)
    have e0 := hld.at_
    refine sim_run 8 [] (hRF.cast (by kernel_rfl)) (by kernel_rfl) trivial (fun ρ400 w400 hm400 hR400 => ?_)
    have hld := hld.moved (hm400.castL (by kernel_rfl))
    have hrow := hrow.moved (hm400.castL (by kernel_rfl))
    have hag3 := hag3.moved (hm400.castL (by kernel_rfl))
    have hag := hag.moved (hm400.castL (by kernel_rfl))
    refine sim_know 72 (decide ((↑j : Int) < (↑ks.length : Int))) true (by kernel_rfl) (decide_eq_true (by omega)) ?_
    refine sim_run 5 [] (hR400.cast (by kernel_rfl)) (by kernel_rfl) trivial (fun ρ401 w401 hm401 hR401 => ?_)
    have hld := hld.moved (hm401.castL (by kernel_rfl))
    have hrow := hrow.moved (hm401.castL (by kernel_rfl))
    have hag3 := hag3.moved (hm401.castL (by kernel_rfl))
    have hag := hag.moved (hm401.castL (by kernel_rfl))
    refine sim_drawF2 [(0, false), (1, false), (2, false), (3, false), (4, false), (5, false), (6, false), (7, false)] (8, [(9, true), (10, true)]) (9, [(8, true), (10, true)]) (some 10) (by kernel_rfl) (by kernel_rfl) hR401 (fun hR402 => ?_) (fun hR402 => ?_)
    have hld := hld.drew
    have hrow := hrow.drew
    refine sim_ordN 6 [] hR402 (by kernel_rfl) trivial (fun ρ403 w403 hm403 hR403 => ?_)
    have hag3 := hag3.moved (hm403.castL (by kernel_rfl))
    have hag := hag.moved (hm403.castL (by kernel_rfl))
    have hld := hld.moved (hm403.castL (by kernel_rfl))
    have hrow := hrow.moved (hm403.castL (by kernel_rfl))
    refine sim_ord_index (.v (.slice (some ⟨gb, ob, none⟩) ks.length cp)) ks.length 2 j 3 0 (by kernel_rfl) (by omega) (by omega) rfl hR403 (by simp only [Nm.at_, hag.at_ 3 (by omega), e3, Nat.add_zero, Int.toNat_natCast]) (fun hR404 => ?_)
    refine sim_ordN 1 [] hR404 (by kernel_rfl) trivial (fun ρ405 w405 hm405 hR405 => ?_)
    have hag3 := hag3.moved (hm405.castL (by kernel_rfl))
    have hag := hag.moved (hm405.castL (by kernel_rfl))
    have hld := hld.moved (hm405.castL (by kernel_rfl))
    have hrow := hrow.moved (hm405.castL (by kernel_rfl))
    refine sim_ord_call (T := []) (w0 := w0) 17 [.v (Value.pointer (some (Addr.mk g 0 none))), .agg [LS k.fst, LS k.snd]] (by kernel_rfl) ?_
    refine Calls.mono (get_po _ _ (s.m) (s.l) (s.ck) _ _ _ (pos_g hld.ld hsg)) ?_
    rw [hb]
    rintro e406 w406 ⟨rfl, hb406⟩
    have hR406 := (hR405).call hb406 (.agg [LI ((b1, b2, b3).fst), LI ((b1, b2, b3).snd.fst), LI ((b1, b2, b3).snd.snd)])
    have hld := hld.below hb406
    have hrow := hrow.below hb406
    refine BackO.of (.agg [LI ((b1, b2, b3).fst), LI ((b1, b2, b3).snd.fst), LI ((b1, b2, b3).snd.snd)]) hR406 rfl ?_
    refine sim_ordN 2 [] hR406 (by kernel_rfl) trivial (fun ρ407 w407 hm407 hR407 => ?_)
    have hag3 := hag3.moved (hm407.castL (by kernel_rfl))
    have hag := hag.moved (hm407.castL (by kernel_rfl))
    have hld := hld.moved (hm407.castL (by kernel_rfl))
    have hrow := hrow.moved (hm407.castL (by kernel_rfl))
    refine sim_ord_endR hR407 (by kernel_rfl) (fun hR408 => ?_)
    refine sim_run 1 [] (hR408.cast (by kernel_rfl)) (by kernel_rfl) trivial (fun ρ409 w409 hm409 hR409 => ?_)
    have hag3 := hag3.moved (hm409.castL (by kernel_rfl))
    have hag := hag.moved (hm409.castL (by kernel_rfl))
    have hld := hld.moved (hm409.castL (by kernel_rfl))
    have hrow := hrow.moved (hm409.castL (by kernel_rfl))
    rotate_left
    have hld := hld.drew
    have hrow := hrow.drew
    refine sim_ordN 6 [] hR402 (by kernel_rfl) trivial (fun ρ410 w410 hm410 hR410 => ?_)
    have hag3 := hag3.moved (hm410.castL (by kernel_rfl))
    have hag := hag.moved (hm410.castL (by kernel_rfl))
    have hld := hld.moved (hm410.castL (by kernel_rfl))
    have hrow := hrow.moved (hm410.castL (by kernel_rfl))
    refine sim_ord_index (.v (.slice (some ⟨gb, ob, none⟩) ks.length cp)) ks.length 2 j 3 0 (by kernel_rfl) (by omega) (by omega) rfl hR410 (by simp only [Nm.at_, hag.at_ 3 (by omega), e3, Nat.add_zero, Int.toNat_natCast]) (fun hR411 => ?_)
    refine sim_ordN 2 [] hR411 (by kernel_rfl) trivial (fun ρ412 w412 hm412 hR412 => ?_)
    have hag3 := hag3.moved (hm412.castL (by kernel_rfl))
    have hag := hag.moved (hm412.castL (by kernel_rfl))
    have hld := hld.moved (hm412.castL (by kernel_rfl))
    have hrow := hrow.moved (hm412.castL (by kernel_rfl))
    refine sim_ord_call (T := []) (w0 := w0) 17 [.v (Value.pointer (some (Addr.mk g 0 none))), .agg [LS k.fst, LS k.snd]] (by kernel_rfl) ?_
    refine Calls.mono (get_po _ _ (s.m) (s.l) (s.ck) _ _ _ (pos_g hld.ld hsg)) ?_
    rw [hb]
    rintro e413 w413 ⟨rfl, hb413⟩
    have hR413 := (hR412).call hb413 (.agg [LI ((b1, b2, b3).fst), LI ((b1, b2, b3).snd.fst), LI ((b1, b2, b3).snd.snd)])
    have hld := hld.below hb413
    have hrow := hrow.below hb413
    refine BackO.of (.agg [LI ((b1, b2, b3).fst), LI ((b1, b2, b3).snd.fst), LI ((b1, b2, b3).snd.snd)]) hR413 rfl ?_
    refine sim_ordN 1 [] hR413 (by kernel_rfl) trivial (fun ρ414 w414 hm414 hR414 => ?_)
    have hag3 := hag3.moved (hm414.castL (by kernel_rfl))
    have hag := hag.moved (hm414.castL (by kernel_rfl))
    have hld := hld.moved (hm414.castL (by kernel_rfl))
    have hrow := hrow.moved (hm414.castL (by kernel_rfl))
    refine sim_ord_endR hR414 (by kernel_rfl) (fun hR415 => ?_)
    refine sim_run 1 [] (hR415.cast (by kernel_rfl)) (by kernel_rfl) trivial (fun ρ416 w416 hm416 hR416 => ?_)
    have hag3 := hag3.moved (hm416.castL (by kernel_rfl))
    have hag := hag.moved (hm416.castL (by kernel_rfl))
    have hld := hld.moved (hm416.castL (by kernel_rfl))
    have hrow := hrow.moved (hm416.castL (by kernel_rfl))
    rotate_left
    
    all_goals
      have hR6 := (by assumption : Rel _ _ _ _ _).cast (rs' := [⟨ptrG g, false⟩, ⟨o.cells.map .v, false⟩, ⟨o.cells.map .v, true⟩, ⟨[LS k.1, LS k.2], false⟩, ⟨[LI b1, LI b2, LI b3], true⟩]) (by kernel_rfl)
      have hld6 := hld.castR (rs' := [⟨ptrG g, false⟩, ⟨o.cells.map .v, false⟩, ⟨o.cells.map .v, true⟩, ⟨[LS k.1, LS k.2], false⟩, ⟨[LI b1, LI b2, LI b3], true⟩]) (by kernel_rfl)
      have hrow6 := hrow.castR (rs' := [⟨ptrG g, false⟩, ⟨o.cells.map .v, false⟩, ⟨o.cells.map .v, true⟩, ⟨[LS k.1, LS k.2], false⟩, ⟨[LI b1, LI b2, LI b3], true⟩]) (by kernel_rfl)
      have e6 := (hag.at_ 3 (by omega)).trans e3
      refine sim_to (regK Try.f10 27) (tmplJ Try.f10.ntmps 0 [(0, .v SL), (3, .ptr 0 0), (4, LI less), (5, LI i), (6, .ptr 2 0), (7, .v (.slice (some ⟨gb, ob, none⟩) ks.length cp)), (8, LI j), (9, .ptr 4 0)]) [⟨ptrG g, false⟩, ⟨o.cells.map .v, false⟩, ⟨o.cells.map .v, true⟩, ⟨[LS k.1, LS k.2], false⟩, ⟨[LI b1, LI b2, LI b3], true⟩] (by kernel_rfl) (by kernel_rfl) (by kernel_rfl) (fun d6 => ?_)
      refine totals_key hR6 hld6 hsg hrow6 e6 hlt (by omega) hb1 hb2 hb3 hlen (htot k.2) d6 (fun c' ρ' w' hk' hm' hl' hag' hR' htk hld' hrow' => ?_)
      have hag7 : Ag 3 ρ300 ρ' c'.rs := ⟨hag3.ag.trans hag'.ag (by omega), hag'.le⟩
      exact sim_again (j + 1) hk' (by show ks.length - (j + 1) < ks.length - j; omega) ((congrArg (mergeT · c'.tmps) (by kernel_rfl)).trans hm') ((congrArg List.length (by kernel_rfl)).trans hl') (by kernel_rfl) hag7.ag hR' htk (by kernel_rfl) ⟨hlt, hld'.cut hag7 (by omega) rfl htk, hrow'.cut hag7 rfl htk⟩
  · have hje : j = ks.length := by omega
    subst hje
    have hag := hR5.ag_ 1 (by kernel_rfl)
    have hto := htot o.asset
    refine sim_run 8 [] (hR5.cast (by kernel_rfl)) (by kernel_rfl) trivial (fun ρ500 w500 hm500 hR500 => ?_)
    have hld := hld.moved (hm500.castL (by kernel_rfl))
    have hrow := hrow.moved (hm500.castL (by kernel_rfl))
    have hag3 := hag3.moved (hm500.castL (by kernel_rfl))
    have hag := hag.moved (hm500.castL (by kernel_rfl))
    refine sim_know 72 (decide ((↑ks.length : Int) < (↑ks.length : Int))) false (by kernel_rfl) (decide_eq_false (by omega)) ?_
    refine sim_run 1 [] (hR500.cast (by kernel_rfl)) (by kernel_rfl) trivial (fun ρ501 w501 hm501 hR501 => ?_)
    have hld := hld.moved (hm501.castL (by kernel_rfl))
    have hrow := hrow.moved (hm501.castL (by kernel_rfl))
    have hag3 := hag3.moved (hm501.castL (by kernel_rfl))
    have hag := hag.moved (hm501.castL (by kernel_rfl))
    refine sim_leave (by kernel_rfl) ?_
    refine sim_run 1 [] (hR501.cast (by kernel_rfl)) (by kernel_rfl) trivial (fun ρ502 w502 hm502 hR502 => ?_)
    have hld := hld.moved (hm502.castL (by kernel_rfl))
    have hrow := hrow.moved (hm502.castL (by kernel_rfl))
    have hag3 := hag3.moved (hm502.castL (by kernel_rfl))
    have hag := hag.moved (hm502.castL (by kernel_rfl))
    refine sim_draw [] (by kernel_rfl) (by kernel_rfl) hR502 (fun hR503 => ?_)
    have hld := hld.drew
    have hrow := hrow.drew
    refine sim_ordN 11 [] hR503 (by kernel_rfl) trivial (fun ρ504 w504 hm504 hR504 => ?_)
    have hag3 := hag3.moved (hm504.castL (by kernel_rfl))
    have hag := hag.moved (hm504.castL (by kernel_rfl))
    have hld := hld.moved (hm504.castL (by kernel_rfl))
    have hrow := hrow.moved (hm504.castL (by kernel_rfl))
    refine sim_ord_call (T := []) (w0 := w0) 21 [.v (Value.pointer (some (Addr.mk g 0 none))), LS o.asset] (by kernel_rfl) ?_
    refine Calls.mono (total_po _ _ (s.m) (s.l) (s.ck) _ _ (pos_g hld.ld hsg) (by assumption)) ?_
    rw [hto]
    rintro e505 w505 ⟨rfl, hb505⟩
    have hR505 := (hR504).call hb505 (LI ((look o.asset s.li).getD 0))
    have hld := hld.below hb505
    have hrow := hrow.below hb505
    refine BackO.of (LI ((look o.asset s.li).getD 0)) hR505 rfl ?_
    refine sim_ord_call (T := []) (w0 := w0) 32 [.ptr 0 0, LS o.asset] (by kernel_rfl) ?_
    have ez0_506 := (hag3.at_ 0 (by omega)).trans e0
    simp only [denL, LV.den, Nm.at_, ez0_506, Nat.add_zero]
    refine Calls.mono (issued_any _ _ _ _ _ hld.ld) ?_
    skip
    rintro e506 w506 ⟨rfl, hb506⟩
    have hR506 := (hR505).call hb506 (LI ((look o.asset s.li).getD 0))
    have hld := hld.below hb506
    have hrow := hrow.below hb506
    refine BackO.of (LI ((look o.asset s.li).getD 0)) hR506 rfl ?_
    refine sim_ordN 1 [] hR506 (by kernel_rfl) trivial (fun ρ507 w507 hm507 hR507 => ?_)
    have hag3 := hag3.moved (hm507.castL (by kernel_rfl))
    have hag := hag.moved (hm507.castL (by kernel_rfl))
    have hld := hld.moved (hm507.castL (by kernel_rfl))
    have hrow := hrow.moved (hm507.castL (by kernel_rfl))
    refine sim_ord_endR hR507 (by kernel_rfl) (fun hR508 => ?_)
    refine sim_know 145 ((look o.asset s.li).getD 0 != (look o.asset s.li).getD 0) false (by kernel_rfl) (bne_self_eq_false _) ?_
    refine sim_run 8 [⟨9, 1, LI (IntKind.i64.wrap ((↑i : Int) + 1)), LI ((↑i : Int) + 1)⟩] (hR508.cast (by kernel_rfl)) (by kernel_rfl) ⟨eqi (IntWalk.i64_in _ (by omega)), trivial⟩ (fun ρ509 w509 hm509 hR509 => ?_)
    have hag3 := hag3.moved (hm509.castL (by kernel_rfl))
    have hag := hag.moved (hm509.castL (by kernel_rfl))
    have hld := hld.moved (hm509.castL (by kernel_rfl))
    have hrow := hrow.moved (hm509.castL (by kernel_rfl))
    
    exact hfin _ _ _ (by kernel_rfl) (by kernel_rfl) (by kernel_rfl) ⟨hagb1.trans hag.ag (by omega), hag.le⟩ (by assumption : Rel _ _ _ _ _) (by kernel_rfl) hld
set_option maxRecDepth 100000 in
set_option maxHeartbeats 4000000 in
theorem totals_after {Q : Exit → Act → World → Prop} {R : Ending → World → Prop} [hB : Body Try.prog Q Try.f10 R] {ρ : Nm} {w0 w : World} {B gl g : Nat} {s : LSt} {o : OpL} {SL : Value} {i : Nat} {less : Int} (hR : Rel [] w0 ρ [⟨ptrG g, false⟩, ⟨o.cells.map .v, false⟩, ⟨o.cells.map .v, true⟩] w) (hld : LdO ρ [⟨ptrG g, false⟩, ⟨o.cells.map .v, false⟩, ⟨o.cells.map .v, true⟩] w B gl s) (hsg : s.g = g) (hlen : s.l.length ≤ 1000000) (htot : ∀ c, clampV (sumI (allOf s.l (sortKs (pickKs [c] s.l)))) = (look c s.li).getD 0) (hi : i ≤ 1000000) (d : Nat → Value)
    (hfin : ∀ (c' : Cfg) (ρ' : Nm) (w' : World), c'.k = [] → mergeT (tmplJ Try.f10.ntmps 0 [(0, .v SL), (3, .ptr 0 0), (4, LI less), (5, LI ((i : Int) + 1))]) c'.tmps = c'.tmps → (tmplJ Try.f10.ntmps 0 [(0, .v SL), (3, .ptr 0 0), (4, LI less), (5, LI ((i : Int) + 1))]).length = c'.tmps.length → Ag 1 ρ ρ' c'.rs → Rel [] w0 ρ' c'.rs w' → c'.rs.take 1 = [⟨ptrG g, false⟩] → LdO ρ' c'.rs w' B gl s → At Try.prog Q c' ρ' w') :
    At Try.prog Q ⟨regK Try.f10 22, fillJ (tmplJ Try.f10.ntmps 0 [(0, .v SL), (3, .ptr 0 0), (4, LI less), (5, LI i), (6, .ptr 2 0)]) d 0, [⟨ptrG g, false⟩, ⟨o.cells.map .v, false⟩, ⟨o.cells.map .v, true⟩]⟩ ρ w := by
  have e0 := hld.at_
  have hag1 := Rel.ag_ hR 1 (by kernel_rfl)
  have hag := Rel.ag_ hR 3 (by kernel_rfl)
  refine sim_run 4 [] (hR.cast (by kernel_rfl)) (by kernel_rfl) trivial (fun ρ200 w200 hm200 hR200 => ?_)
  have hld := hld.moved (hm200.castL (by kernel_rfl))
  have hag1 := hag1.moved (hm200.castL (by kernel_rfl))
  have hag := hag.moved (hm200.castL (by kernel_rfl))
  refine sim_call 18 [.v (Value.pointer (some (Addr.mk g 0 none))), .v (Value.slice none 0 0)] (by kernel_rfl) ?_
  refine Calls.mono (keys_po _ _ (s.m) (s.l) (s.ck) _ _ _ (0) ([]) _ (pos_g hld.ld hsg) ⟨rfl, fun h => absurd h (by omega)⟩ (by omega) (by omega) (by assumption)) ?_
  rintro e201 w201 ⟨A, cp, rfl, ho201, hb201⟩
  rw [List.flatMap_def] at ho201
  have hrow := Own.start hR200 ho201
  have hR201 := hR200.below hb201
  have hld := hld.below hb201
  refine Back.of (.v (Value.slice A (sortKs (pickKs [] s.l)).length cp)) hR201 rfl ?_
  refine sim_run 5 [] (hR201.cast (by kernel_rfl)) (by kernel_rfl) trivial (fun ρ202 w202 hm202 hR202 => ?_)
  have hag1 := hag1.moved (hm202.castL (by kernel_rfl))
  have hag := hag.moved (hm202.castL (by kernel_rfl))
  have hrow := hrow.moved (hm202.castL (by kernel_rfl))
  have hld := hld.moved (hm202.castL (by kernel_rfl))
  
  have hkl : (sortKs (pickKs [] s.l)).length ≤ s.l.length := by rw [sortKs_len]; exact pickKs_len _ _
  have hmem : ∀ k ∈ sortKs (pickKs [] s.l), True := fun _ _ => trivial
  generalize hks : sortKs (pickKs [] s.l) = ks at hrow hkl hmem ⊢
  refine sim_to (regK Try.f10 23) (tmplJ Try.f10.ntmps 0 [(0, .v SL), (3, .ptr 0 0), (4, LI less), (5, LI i), (6, .ptr 2 0), (7, .v (.slice A ks.length cp))]) [⟨ptrG g, false⟩, ⟨o.cells.map .v, false⟩, ⟨o.cells.map .v, true⟩] (by kernel_rfl) (by kernel_rfl) (by kernel_rfl) (fun d2 => ?_)
  have hR2 := (by assumption : Rel _ _ _ _ _).cast (rs' := [⟨ptrG g, false⟩, ⟨o.cells.map .v, false⟩, ⟨o.cells.map .v, true⟩]) (by kernel_rfl)
  have hld2 := hld.castR (rs' := [⟨ptrG g, false⟩, ⟨o.cells.map .v, false⟩, ⟨o.cells.map .v, true⟩]) (by kernel_rfl)
  have hrow2 := hrow.castR (rs' := [⟨ptrG g, false⟩, ⟨o.cells.map .v, false⟩, ⟨o.cells.map .v, true⟩]) (by kernel_rfl)
  have hag1' := Ag.castR hag1 (rs' := [⟨ptrG g, false⟩, ⟨o.cells.map .v, false⟩, ⟨o.cells.map .v, true⟩]) (by kernel_rfl)
  exact totals_loop hR2 hld2 hsg hrow2 hlen (by omega) htot hi hag1' d2 hfin
end Go.Proofs.Ytgbgedaedcofcaa
