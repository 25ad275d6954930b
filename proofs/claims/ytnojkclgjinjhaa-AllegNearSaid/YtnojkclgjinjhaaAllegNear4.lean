/-
  AllegNear: for one that is told of: the instruction of its Id, the near one, how many are the party's own.
-/
import Derived.Test.YtnojkclgjinjhaaAlN
import Derived.Test.YtnojkclgjinjhaaFork
namespace Go.Proofs.Ytnojkclgjinjhaa
open Go Go.RowKit
attribute [local irreducible] run goO leaveK someK nextK nextT nextOT nextOD loopBody loopRest loopK fillJ tmplOf tmplJ mergeT At AtO drawOk ordOf gateOf callC callO topOp topO idxOf appOf storeOf clearOf sliceOf calleeOf calleeO topQ idxQ newRowOf resL stepOp seek
set_option maxRecDepth 100000 in
set_option maxHeartbeats 4000000 in
theorem near_28 {Q : Exit → Act → World → Prop} {R : Ending → World → Prop} [hB : Body Try.prog Q Try.f3 R] {ρ : Nm} {w0 w : World} {party : ByteArray} {A Aw : Option Addr} {n cp m c2 g2 o2 i cw B0 : Nat} {l : List In} {Y : In} {x : In} {near : Int} {ws : List ByteArray} {xs : List Value} (hrd : Reads w0 w0.heap.size 21 A n (l.map In.cells).flatten) (hll : l.length = n) (hn30 : n ≤ 30) {c : Int} (hok : ∀ z ∈ l, z.ok) (hxok : x.ok) (hR : Rel [] w0 ρ [⟨x.term.cells.map .v ++ [LI x.id, LI near, .v (.slice Aw ws.length cw)], false⟩, ⟨x.cells.map .v, true⟩, ⟨Y.cells.map .v, true⟩] w) (hrow : Own ρ [⟨x.term.cells.map .v ++ [LI x.id, LI near, .v (.slice Aw ws.length cw)], false⟩, ⟨x.cells.map .v, true⟩, ⟨Y.cells.map .v, true⟩] w B0 32 15 (.slice (some ⟨g2, o2, none⟩) m c2) m xs) (e0 : ρ 0 = (g2, o2 + i * 15)) (him : i < m) (hm : m ≤ 30) (hY : near ≠ 0 → Y.ok ∧ Y.term.party = party ∧ Y.state = 0 ∧ (differ x Y 0).length = ws.length ∧ ∀ z ∈ l, ownB party z = true → ws.length ≤ (differ x z 0).length) (d : Nat → Value)
    (hfin : ∀ (c' : Cfg) (ρ' : Nm) (w' : World), c'.k = [] → mergeT (tmplJ Try.f3.ntmps 0 [(0, LS party), (1, .v (.slice A n cp)), (7, .v (.slice (some ⟨g2, o2, none⟩) m c2)), (8, LI ((i : Int) + 1))]) c'.tmps = c'.tmps → (tmplJ Try.f3.ntmps 0 [(0, LS party), (1, .v (.slice A n cp)), (7, .v (.slice (some ⟨g2, o2, none⟩) m c2)), (8, LI ((i : Int) + 1))]).length = c'.tmps.length → Rel [] w0 ρ' c'.rs w' → Own ρ' c'.rs w' B0 32 15 (.slice (some ⟨g2, o2, none⟩) m c2) m xs → At Try.prog Q c' ρ' w') :
    At Try.prog Q ⟨regK Try.f3 28, fillJ (tmplJ Try.f3.ntmps 0 [(0, LS party), (1, .v (.slice A n cp)), (7, .v (.slice (some ⟨g2, o2, none⟩) m c2)), (8, LI i), (9, .ptr 1 0), (10, .ptr 2 0), (11, LI c)]) d 0, [⟨x.term.cells.map .v ++ [LI x.id, LI near, .v (.slice Aw ws.length cw)], false⟩, ⟨x.cells.map .v, true⟩, ⟨Y.cells.map .v, true⟩]⟩ ρ w := by
  have hag3 := Rel.ag_ hR 3 (by kernel_rfl)
  have hag := hag3
  rcases Decidable.em (near = 0) with hn | hn
  · refine sim_run 2 [] (hR.cast (by kernel_rfl)) (by kernel_rfl) trivial (fun ρ1100 w1100 hm1100 hR1100 => ?_)
    have hrow := hrow.moved (hm1100.castL (by kernel_rfl))
    have hag3 := hag3.moved (hm1100.castL (by kernel_rfl))
    have hag := hag.moved (hm1100.castL (by kernel_rfl))
    refine sim_place (.v (.slice (some ⟨g2, o2, none⟩) m c2)) m 15 i 0 0 (by kernel_rfl) (by omega) (by omega) rfl (by simp only [Nm.at_, hag.at_ 0 (by omega), e0, Nat.add_zero, Int.toNat_natCast]) ?_
    refine sim_run 4 [] (hR1100.cast (by kernel_rfl)) (by kernel_rfl) trivial (fun ρ1102 w1102 hm1102 hR1102 => ?_)
    have hrow := hrow.moved (hm1102.castL (by kernel_rfl))
    have hag3 := hag3.moved (hm1102.castL (by kernel_rfl))
    have hag := hag.moved (hm1102.castL (by kernel_rfl))
    refine sim_know 174 (near == 0) true (by kernel_rfl) (decide_eq_true (by omega)) ?_
    refine sim_run 7 [⟨14, 1, LI (IntKind.i64.wrap ((↑i : Int) + 1)), LI ((↑i : Int) + 1)⟩] (hR1102.cast (by kernel_rfl)) (by kernel_rfl) ⟨eqi (IntWalk.i64_in _ (by omega)), trivial⟩ (fun ρ1103 w1103 hm1103 hR1103 => ?_)
    have hrow := hrow.moved (hm1103.castL (by kernel_rfl))
    have hag3 := hag3.moved (hm1103.castL (by kernel_rfl))
    have hag := hag.moved (hm1103.castL (by kernel_rfl))
    
    exact hfin _ _ _ (by kernel_rfl) (by kernel_rfl) (by kernel_rfl) (by assumption : Rel _ _ _ _ _) hrow
  · obtain ⟨hYok, hYp, hYs, hlen, hall⟩ := hY hn
    refine sim_run 2 [] (hR.cast (by kernel_rfl)) (by kernel_rfl) trivial (fun ρ1200 w1200 hm1200 hR1200 => ?_)
    have hrow := hrow.moved (hm1200.castL (by kernel_rfl))
    have hag3 := hag3.moved (hm1200.castL (by kernel_rfl))
    have hag := hag.moved (hm1200.castL (by kernel_rfl))
    refine sim_place (.v (.slice (some ⟨g2, o2, none⟩) m c2)) m 15 i 0 0 (by kernel_rfl) (by omega) (by omega) rfl (by simp only [Nm.at_, hag.at_ 0 (by omega), e0, Nat.add_zero, Int.toNat_natCast]) ?_
    refine sim_run 4 [] (hR1200.cast (by kernel_rfl)) (by kernel_rfl) trivial (fun ρ1202 w1202 hm1202 hR1202 => ?_)
    have hrow := hrow.moved (hm1202.castL (by kernel_rfl))
    have hag3 := hag3.moved (hm1202.castL (by kernel_rfl))
    have hag := hag.moved (hm1202.castL (by kernel_rfl))
    refine sim_know 174 (near == 0) false (by kernel_rfl) (decide_eq_false (by omega)) ?_
    refine sim_run 4 [] (hR1202.cast (by kernel_rfl)) (by kernel_rfl) trivial (fun ρ1203 w1203 hm1203 hR1203 => ?_)
    have hrow := hrow.moved (hm1203.castL (by kernel_rfl))
    have hag3 := hag3.moved (hm1203.castL (by kernel_rfl))
    have hag := hag.moved (hm1203.castL (by kernel_rfl))
    refine sim_draw [] (by kernel_rfl) (by kernel_rfl) hR1203 (fun hR1204 => ?_)
    have hrow := hrow.drew
    refine sim_ordN 6 [] hR1204 (by kernel_rfl) trivial (fun ρ1205 w1205 hm1205 hR1205 => ?_)
    have hag3 := hag3.moved (hm1205.castL (by kernel_rfl))
    have hag := hag.moved (hm1205.castL (by kernel_rfl))
    have hrow := hrow.moved (hm1205.castL (by kernel_rfl))
    refine sim_knowO hR1205 180 (!Y.term.party.toList == party.toList) false (by kernel_rfl) (by simp [hYp]) (fun hR1206 => ?_)
    refine sim_ordN 5 [] hR1206 (by kernel_rfl) trivial (fun ρ1207 w1207 hm1207 hR1207 => ?_)
    have hag3 := hag3.moved (hm1207.castL (by kernel_rfl))
    have hag := hag.moved (hm1207.castL (by kernel_rfl))
    have hrow := hrow.moved (hm1207.castL (by kernel_rfl))
    refine sim_knowO hR1207 185 (Y.state != 0) false (by kernel_rfl) (by simp [hYs]) (fun hR1208 => ?_)
    refine sim_ordN 4 [] hR1208 (by kernel_rfl) trivial (fun ρ1209 w1209 hm1209 hR1209 => ?_)
    have hag3 := hag3.moved (hm1209.castL (by kernel_rfl))
    have hag := hag.moved (hm1209.castL (by kernel_rfl))
    have hrow := hrow.moved (hm1209.castL (by kernel_rfl))
    refine sim_ord_index (.v (.slice (some ⟨g2, o2, none⟩) m c2)) m 15 i 0 0 (by kernel_rfl) (by omega) (by omega) rfl hR1209 (by simp only [Nm.at_, hag.at_ 0 (by omega), e0, Nat.add_zero, Int.toNat_natCast]) (fun hR1210 => ?_)
    refine sim_ordN 3 [] hR1210 (by kernel_rfl) trivial (fun ρ1211 w1211 hm1211 hR1211 => ?_)
    have hag3 := hag3.moved (hm1211.castL (by kernel_rfl))
    have hag := hag.moved (hm1211.castL (by kernel_rfl))
    have hrow := hrow.moved (hm1211.castL (by kernel_rfl))
    refine sim_ord_call (T := []) (w0 := w0) 8 [.agg [LI x.id, LS x.term.party, LS x.term.account, LS x.term.money, LS x.term.other, LB x.term.deliver, LS x.term.asset, LS x.term.ccy, LS x.term.ref, LI x.term.qty, LI x.term.amount, LI x.term.day, LI x.term.trade, LI x.prio, LB x.part, LB x.held, LB x.wish, LI x.state, LI x.mate, LI x.done, LI x.paid], .agg [LI Y.id, LS Y.term.party, LS Y.term.account, LS Y.term.money, LS Y.term.other, LB Y.term.deliver, LS Y.term.asset, LS Y.term.ccy, LS Y.term.ref, LI Y.term.qty, LI Y.term.amount, LI Y.term.day, LI Y.term.trade, LI Y.prio, LB Y.part, LB Y.held, LB Y.wish, LI Y.state, LI Y.mate, LI Y.done, LI Y.paid], LI 0] (by kernel_rfl) ?_
    refine Calls.mono (differ_any (x) (Y) (hxok) (hYok) (0) ((by decide)) _) ?_
    rintro e1212 w1212 ⟨Ad1212, cd1212, rfl, _, hb1212⟩
    have hR1212 := hR1211.call hb1212 (.v (.slice Ad1212 (differ x Y 0).length cd1212))
    have hrow := hrow.below hb1212
    refine BackO.of (.v (.slice Ad1212 (differ x Y 0).length cd1212)) hR1212 rfl ?_
    refine sim_ordN 3 [] hR1212 (by kernel_rfl) trivial (fun ρ1213 w1213 hm1213 hR1213 => ?_)
    have hag3 := hag3.moved (hm1213.castL (by kernel_rfl))
    have hag := hag.moved (hm1213.castL (by kernel_rfl))
    have hrow := hrow.moved (hm1213.castL (by kernel_rfl))
    refine sim_ord_endR hR1213 (by kernel_rfl) (fun hR1214 => ?_)
    refine sim_know 197 ((↑(differ x Y 0).length : Int) != (↑ws.length : Int)) false (by kernel_rfl) (by rw [hlen]; exact bne_self_eq_false _) ?_
    refine sim_run 7 [] (hR1214.cast (by kernel_rfl)) (by kernel_rfl) trivial (fun ρ1215 w1215 hm1215 hR1215 => ?_)
    have hag3 := hag3.moved (hm1215.castL (by kernel_rfl))
    have hag := hag.moved (hm1215.castL (by kernel_rfl))
    have hrow := hrow.moved (hm1215.castL (by kernel_rfl))
    
    refine sim_loop (ι := Nat) (T := []) (w0 := w0) 0 [0, 1, 7, 8, 9, 10] (fun k => [(13, LI k)]) (fun _ => [⟨x.term.cells.map .v ++ [LI x.id, LI near, .v (.slice Aw ws.length cw)], false⟩, ⟨x.cells.map .v, true⟩, ⟨Y.cells.map .v, true⟩]) (fun k w1 => k ≤ n ∧ Own ρ1215 [⟨x.term.cells.map .v ++ [LI x.id, LI near, .v (.slice Aw ws.length cw)], false⟩, ⟨x.cells.map .v, true⟩, ⟨Y.cells.map .v, true⟩] w1 B0 32 15 (.slice (some ⟨g2, o2, none⟩) m c2) m xs) (fun k => n - k) (by kernel_rfl) (by kernel_rfl) ((by assumption : Rel _ _ _ _ _).cast (by kernel_rfl)) ⟨Nat.zero_le _, hrow.castR (by kernel_rfl)⟩ ?_
    have e0 := (hag3.at_ 0 (by omega)).trans e0
    iterate 30 (try clear hrow)
    iterate 30 (try clear hag3)
    iterate 30 (try clear hag)
    clear hR hR1215 hm1215
    rintro k d5 w5 hR5 ⟨hk, hrow⟩
    have hag3 := hR5.ag_ 3 (by kernel_rfl)
    by_cases hlt : k < n
    · obtain ⟨z, hz⟩ : ∃ z, l[k]? = some z := ⟨_, List.getElem?_eq_getElem (by omega)⟩
      have hzm := List.mem_of_getElem? hz
      have hzok := hok z hzm
      refine sim_see (n := n) z.cells k 3 (by kernel_rfl) (by rw [List.getElem?_map, hz]; rfl) hrd (in_len2 l) (by omega) hlt (Nat.le_refl _) (by simp) hR5 (by kernel_rfl) (fun ga oa ρE eA hgT hgl hmE e3 hRE => ?_)
      subst eA
      have hrow := hrow.moved hmE
      have hag3 := hag3.moved hmE
      have e0 := (hmE.agree 0 (by show 0 < 3; omega)).trans e0
      have hag := hRE.ag_ 4 (by kernel_rfl)
      rcases Decidable.em (z.term.party = party) with hp | hp
      · rcases Decidable.em (z.state = 0) with hs | hs
        · have hle := hall z hzm (ownB_yes.2 ⟨hp, hs⟩)
          refine sim_run 8 [] (hRE.cast (by kernel_rfl)) (by kernel_rfl) trivial (fun ρ1300 w1300 hm1300 hR1300 => ?_)
          have hrow := hrow.moved (hm1300.castL (by kernel_rfl))
          have hag3 := hag3.moved (hm1300.castL (by kernel_rfl))
          have hag := hag.moved (hm1300.castL (by kernel_rfl))
          refine sim_know 201 (decide ((↑k : Int) < (↑n : Int))) true (by kernel_rfl) (decide_eq_true (by omega)) ?_
          refine sim_run 5 [] (hR1300.cast (by kernel_rfl)) (by kernel_rfl) trivial (fun ρ1301 w1301 hm1301 hR1301 => ?_)
          have hrow := hrow.moved (hm1301.castL (by kernel_rfl))
          have hag3 := hag3.moved (hm1301.castL (by kernel_rfl))
          have hag := hag.moved (hm1301.castL (by kernel_rfl))
          refine sim_draw [] (by kernel_rfl) (by kernel_rfl) hR1301 (fun hR1302 => ?_)
          have hrow := hrow.drew
          refine sim_ordN 2 [] hR1302 (by kernel_rfl) trivial (fun ρ1303 w1303 hm1303 hR1303 => ?_)
          have hag3 := hag3.moved (hm1303.castL (by kernel_rfl))
          have hag := hag.moved (hm1303.castL (by kernel_rfl))
          have hrow := hrow.moved (hm1303.castL (by kernel_rfl))
          refine sim_ord_index (.v (.slice (some ⟨ga, oa, none⟩) n cp)) n 21 k 3 0 (by kernel_rfl) (by omega) (by omega) rfl hR1303 (by simp only [Nm.at_, hag.at_ 3 (by omega), e3, Nat.add_zero, Int.toNat_natCast]) (fun hR1305 => ?_)
          refine sim_ordN 6 [] hR1305 (by kernel_rfl) trivial (fun ρ1306 w1306 hm1306 hR1306 => ?_)
          have hag3 := hag3.moved (hm1306.castL (by kernel_rfl))
          have hag := hag.moved (hm1306.castL (by kernel_rfl))
          have hrow := hrow.moved (hm1306.castL (by kernel_rfl))
          refine sim_knowO hR1306 212 (z.term.party.toList == party.toList) true (by kernel_rfl) (by simp [hp]) (fun hR1307 => ?_)
          refine sim_ordN 2 [] hR1307 (by kernel_rfl) trivial (fun ρ1308 w1308 hm1308 hR1308 => ?_)
          have hag3 := hag3.moved (hm1308.castL (by kernel_rfl))
          have hag := hag.moved (hm1308.castL (by kernel_rfl))
          have hrow := hrow.moved (hm1308.castL (by kernel_rfl))
          refine sim_ord_index (.v (.slice (some ⟨ga, oa, none⟩) n cp)) n 21 k 3 0 (by kernel_rfl) (by omega) (by omega) rfl hR1308 (by simp only [Nm.at_, hag.at_ 3 (by omega), e3, Nat.add_zero, Int.toNat_natCast]) (fun hR1310 => ?_)
          refine sim_ordN 5 [] hR1310 (by kernel_rfl) trivial (fun ρ1311 w1311 hm1311 hR1311 => ?_)
          have hag3 := hag3.moved (hm1311.castL (by kernel_rfl))
          have hag := hag.moved (hm1311.castL (by kernel_rfl))
          have hrow := hrow.moved (hm1311.castL (by kernel_rfl))
          refine sim_knowO hR1311 220 (z.state == 0) true (by kernel_rfl) (decide_eq_true (by omega)) (fun hR1312 => ?_)
          refine sim_ordN 3 [] hR1312 (by kernel_rfl) trivial (fun ρ1313 w1313 hm1313 hR1313 => ?_)
          have hag3 := hag3.moved (hm1313.castL (by kernel_rfl))
          have hag := hag.moved (hm1313.castL (by kernel_rfl))
          have hrow := hrow.moved (hm1313.castL (by kernel_rfl))
          refine sim_ord_index (.v (.slice (some ⟨ga, oa, none⟩) n cp)) n 21 k 3 0 (by kernel_rfl) (by omega) (by omega) rfl hR1313 (by simp only [Nm.at_, hag.at_ 3 (by omega), e3, Nat.add_zero, Int.toNat_natCast]) (fun hR1315 => ?_)
          refine sim_ordN 3 [] hR1315 (by kernel_rfl) trivial (fun ρ1316 w1316 hm1316 hR1316 => ?_)
          have hag3 := hag3.moved (hm1316.castL (by kernel_rfl))
          have hag := hag.moved (hm1316.castL (by kernel_rfl))
          have hrow := hrow.moved (hm1316.castL (by kernel_rfl))
          refine sim_ord_index (.v (.slice (some ⟨g2, o2, none⟩) m c2)) m 15 i 0 0 (by kernel_rfl) (by omega) (by omega) rfl hR1316 (by simp only [Nm.at_, hag.at_ 0 (by omega), e0, Nat.add_zero, Int.toNat_natCast]) (fun hR1317 => ?_)
          refine sim_ordN 3 [] hR1317 (by kernel_rfl) trivial (fun ρ1318 w1318 hm1318 hR1318 => ?_)
          have hag3 := hag3.moved (hm1318.castL (by kernel_rfl))
          have hag := hag.moved (hm1318.castL (by kernel_rfl))
          have hrow := hrow.moved (hm1318.castL (by kernel_rfl))
          refine sim_ord_call (T := []) (w0 := w0) 8 [.agg [LI x.id, LS x.term.party, LS x.term.account, LS x.term.money, LS x.term.other, LB x.term.deliver, LS x.term.asset, LS x.term.ccy, LS x.term.ref, LI x.term.qty, LI x.term.amount, LI x.term.day, LI x.term.trade, LI x.prio, LB x.part, LB x.held, LB x.wish, LI x.state, LI x.mate, LI x.done, LI x.paid], .agg [LI z.id, LS z.term.party, LS z.term.account, LS z.term.money, LS z.term.other, LB z.term.deliver, LS z.term.asset, LS z.term.ccy, LS z.term.ref, LI z.term.qty, LI z.term.amount, LI z.term.day, LI z.term.trade, LI z.prio, LB z.part, LB z.held, LB z.wish, LI z.state, LI z.mate, LI z.done, LI z.paid], LI 0] (by kernel_rfl) ?_
          refine Calls.mono (differ_any (x) (z) (hxok) (hzok) (0) ((by decide)) _) ?_
          rintro e1319 w1319 ⟨Ad1319, cd1319, rfl, _, hb1319⟩
          have hR1319 := hR1318.call hb1319 (.v (.slice Ad1319 (differ x z 0).length cd1319))
          have hrow := hrow.below hb1319
          refine BackO.of (.v (.slice Ad1319 (differ x z 0).length cd1319)) hR1319 rfl ?_
          refine sim_ordN 3 [] hR1319 (by kernel_rfl) trivial (fun ρ1320 w1320 hm1320 hR1320 => ?_)
          have hag3 := hag3.moved (hm1320.castL (by kernel_rfl))
          have hag := hag.moved (hm1320.castL (by kernel_rfl))
          have hrow := hrow.moved (hm1320.castL (by kernel_rfl))
          refine sim_ord_endR hR1320 (by kernel_rfl) (fun hR1321 => ?_)
          refine sim_know 235 (decide ((↑(differ x z 0).length : Int) < (↑ws.length : Int))) false (by kernel_rfl) (decide_eq_false (by omega)) ?_
          refine sim_run 8 [⟨33, 1, LI (IntKind.i64.wrap ((↑k : Int) + 1)), LI ((↑k : Int) + 1)⟩] (hR1321.cast (by kernel_rfl)) (by kernel_rfl) ⟨eqi (IntWalk.i64_in _ (by omega)), trivial⟩ (fun ρ1322 w1322 hm1322 hR1322 => ?_)
          have hag3 := hag3.moved (hm1322.castL (by kernel_rfl))
          have hag := hag.moved (hm1322.castL (by kernel_rfl))
          have hrow := hrow.moved (hm1322.castL (by kernel_rfl))
          
          exact sim_again (k + 1) (by kernel_rfl) (by show n - (k + 1) < n - k; omega) (by kernel_rfl) (by kernel_rfl) (by kernel_rfl) hag3.ag (Rel.cast (by assumption) (by kernel_rfl)) (by kernel_rfl) (by kernel_rfl) ⟨hlt, hrow.cut hag3 rfl (by kernel_rfl)⟩
        · refine sim_run 8 [] (hRE.cast (by kernel_rfl)) (by kernel_rfl) trivial (fun ρ1400 w1400 hm1400 hR1400 => ?_)
          have hrow := hrow.moved (hm1400.castL (by kernel_rfl))
          have hag3 := hag3.moved (hm1400.castL (by kernel_rfl))
          have hag := hag.moved (hm1400.castL (by kernel_rfl))
          refine sim_know 201 (decide ((↑k : Int) < (↑n : Int))) true (by kernel_rfl) (decide_eq_true (by omega)) ?_
          refine sim_run 5 [] (hR1400.cast (by kernel_rfl)) (by kernel_rfl) trivial (fun ρ1401 w1401 hm1401 hR1401 => ?_)
          have hrow := hrow.moved (hm1401.castL (by kernel_rfl))
          have hag3 := hag3.moved (hm1401.castL (by kernel_rfl))
          have hag := hag.moved (hm1401.castL (by kernel_rfl))
          refine sim_draw [] (by kernel_rfl) (by kernel_rfl) hR1401 (fun hR1402 => ?_)
          have hrow := hrow.drew
          refine sim_ordN 2 [] hR1402 (by kernel_rfl) trivial (fun ρ1403 w1403 hm1403 hR1403 => ?_)
          have hag3 := hag3.moved (hm1403.castL (by kernel_rfl))
          have hag := hag.moved (hm1403.castL (by kernel_rfl))
          have hrow := hrow.moved (hm1403.castL (by kernel_rfl))
          refine sim_ord_index (.v (.slice (some ⟨ga, oa, none⟩) n cp)) n 21 k 3 0 (by kernel_rfl) (by omega) (by omega) rfl hR1403 (by simp only [Nm.at_, hag.at_ 3 (by omega), e3, Nat.add_zero, Int.toNat_natCast]) (fun hR1405 => ?_)
          refine sim_ordN 6 [] hR1405 (by kernel_rfl) trivial (fun ρ1406 w1406 hm1406 hR1406 => ?_)
          have hag3 := hag3.moved (hm1406.castL (by kernel_rfl))
          have hag := hag.moved (hm1406.castL (by kernel_rfl))
          have hrow := hrow.moved (hm1406.castL (by kernel_rfl))
          refine sim_knowO hR1406 212 (z.term.party.toList == party.toList) true (by kernel_rfl) (by simp [hp]) (fun hR1407 => ?_)
          refine sim_ordN 2 [] hR1407 (by kernel_rfl) trivial (fun ρ1408 w1408 hm1408 hR1408 => ?_)
          have hag3 := hag3.moved (hm1408.castL (by kernel_rfl))
          have hag := hag.moved (hm1408.castL (by kernel_rfl))
          have hrow := hrow.moved (hm1408.castL (by kernel_rfl))
          refine sim_ord_index (.v (.slice (some ⟨ga, oa, none⟩) n cp)) n 21 k 3 0 (by kernel_rfl) (by omega) (by omega) rfl hR1408 (by simp only [Nm.at_, hag.at_ 3 (by omega), e3, Nat.add_zero, Int.toNat_natCast]) (fun hR1410 => ?_)
          refine sim_ordN 5 [] hR1410 (by kernel_rfl) trivial (fun ρ1411 w1411 hm1411 hR1411 => ?_)
          have hag3 := hag3.moved (hm1411.castL (by kernel_rfl))
          have hag := hag.moved (hm1411.castL (by kernel_rfl))
          have hrow := hrow.moved (hm1411.castL (by kernel_rfl))
          refine sim_knowO hR1411 220 (z.state == 0) false (by kernel_rfl) (decide_eq_false (by omega)) (fun hR1412 => ?_)
          refine sim_ordN 15 [] hR1412 (by kernel_rfl) trivial (fun ρ1413 w1413 hm1413 hR1413 => ?_)
          have hag3 := hag3.moved (hm1413.castL (by kernel_rfl))
          have hag := hag.moved (hm1413.castL (by kernel_rfl))
          have hrow := hrow.moved (hm1413.castL (by kernel_rfl))
          refine sim_ord_endR hR1413 (by kernel_rfl) (fun hR1414 => ?_)
          refine sim_run 8 [⟨33, 1, LI (IntKind.i64.wrap ((↑k : Int) + 1)), LI ((↑k : Int) + 1)⟩] (hR1414.cast (by kernel_rfl)) (by kernel_rfl) ⟨eqi (IntWalk.i64_in _ (by omega)), trivial⟩ (fun ρ1415 w1415 hm1415 hR1415 => ?_)
          have hag3 := hag3.moved (hm1415.castL (by kernel_rfl))
          have hag := hag.moved (hm1415.castL (by kernel_rfl))
          have hrow := hrow.moved (hm1415.castL (by kernel_rfl))
          
          exact sim_again (k + 1) (by kernel_rfl) (by show n - (k + 1) < n - k; omega) (by kernel_rfl) (by kernel_rfl) (by kernel_rfl) hag3.ag (Rel.cast (by assumption) (by kernel_rfl)) (by kernel_rfl) (by kernel_rfl) ⟨hlt, hrow.cut hag3 rfl (by kernel_rfl)⟩
      · refine sim_run 8 [] (hRE.cast (by kernel_rfl)) (by kernel_rfl) trivial (fun ρ1500 w1500 hm1500 hR1500 => ?_)
        have hrow := hrow.moved (hm1500.castL (by kernel_rfl))
        have hag3 := hag3.moved (hm1500.castL (by kernel_rfl))
        have hag := hag.moved (hm1500.castL (by kernel_rfl))
        refine sim_know 201 (decide ((↑k : Int) < (↑n : Int))) true (by kernel_rfl) (decide_eq_true (by omega)) ?_
        refine sim_run 5 [] (hR1500.cast (by kernel_rfl)) (by kernel_rfl) trivial (fun ρ1501 w1501 hm1501 hR1501 => ?_)
        have hrow := hrow.moved (hm1501.castL (by kernel_rfl))
        have hag3 := hag3.moved (hm1501.castL (by kernel_rfl))
        have hag := hag.moved (hm1501.castL (by kernel_rfl))
        refine sim_draw [] (by kernel_rfl) (by kernel_rfl) hR1501 (fun hR1502 => ?_)
        have hrow := hrow.drew
        refine sim_ordN 2 [] hR1502 (by kernel_rfl) trivial (fun ρ1503 w1503 hm1503 hR1503 => ?_)
        have hag3 := hag3.moved (hm1503.castL (by kernel_rfl))
        have hag := hag.moved (hm1503.castL (by kernel_rfl))
        have hrow := hrow.moved (hm1503.castL (by kernel_rfl))
        refine sim_ord_index (.v (.slice (some ⟨ga, oa, none⟩) n cp)) n 21 k 3 0 (by kernel_rfl) (by omega) (by omega) rfl hR1503 (by simp only [Nm.at_, hag.at_ 3 (by omega), e3, Nat.add_zero, Int.toNat_natCast]) (fun hR1505 => ?_)
        refine sim_ordN 6 [] hR1505 (by kernel_rfl) trivial (fun ρ1506 w1506 hm1506 hR1506 => ?_)
        have hag3 := hag3.moved (hm1506.castL (by kernel_rfl))
        have hag := hag.moved (hm1506.castL (by kernel_rfl))
        have hrow := hrow.moved (hm1506.castL (by kernel_rfl))
        refine sim_knowO hR1506 212 (z.term.party.toList == party.toList) false (by kernel_rfl) (Bool.eq_false_iff.2 fun h => hp (ba_eq h)) (fun hR1507 => ?_)
        refine sim_ordN 23 [] hR1507 (by kernel_rfl) trivial (fun ρ1508 w1508 hm1508 hR1508 => ?_)
        have hag3 := hag3.moved (hm1508.castL (by kernel_rfl))
        have hag := hag.moved (hm1508.castL (by kernel_rfl))
        have hrow := hrow.moved (hm1508.castL (by kernel_rfl))
        refine sim_ord_endR hR1508 (by kernel_rfl) (fun hR1509 => ?_)
        refine sim_run 8 [⟨33, 1, LI (IntKind.i64.wrap ((↑k : Int) + 1)), LI ((↑k : Int) + 1)⟩] (hR1509.cast (by kernel_rfl)) (by kernel_rfl) ⟨eqi (IntWalk.i64_in _ (by omega)), trivial⟩ (fun ρ1510 w1510 hm1510 hR1510 => ?_)
        have hag3 := hag3.moved (hm1510.castL (by kernel_rfl))
        have hag := hag.moved (hm1510.castL (by kernel_rfl))
        have hrow := hrow.moved (hm1510.castL (by kernel_rfl))
        
        exact sim_again (k + 1) (by kernel_rfl) (by show n - (k + 1) < n - k; omega) (by kernel_rfl) (by kernel_rfl) (by kernel_rfl) hag3.ag (Rel.cast (by assumption) (by kernel_rfl)) (by kernel_rfl) (by kernel_rfl) ⟨hlt, hrow.cut hag3 rfl (by kernel_rfl)⟩
    · refine sim_run 8 [] (hR5.cast (by kernel_rfl)) (by kernel_rfl) trivial (fun ρ1600 w1600 hm1600 hR1600 => ?_)
      have hrow := hrow.moved (hm1600.castL (by kernel_rfl))
      have hag3 := hag3.moved (hm1600.castL (by kernel_rfl))
      refine sim_know 201 (decide ((↑k : Int) < (↑n : Int))) false (by kernel_rfl) (decide_eq_false (by omega)) ?_
      refine sim_run 1 [] (hR1600.cast (by kernel_rfl)) (by kernel_rfl) trivial (fun ρ1601 w1601 hm1601 hR1601 => ?_)
      have hrow := hrow.moved (hm1601.castL (by kernel_rfl))
      have hag3 := hag3.moved (hm1601.castL (by kernel_rfl))
      refine sim_leave (by kernel_rfl) ?_
      refine sim_run 6 [⟨14, 1, LI (IntKind.i64.wrap ((↑i : Int) + 1)), LI ((↑i : Int) + 1)⟩] (hR1601.cast (by kernel_rfl)) (by kernel_rfl) ⟨eqi (IntWalk.i64_in _ (by omega)), trivial⟩ (fun ρ1602 w1602 hm1602 hR1602 => ?_)
      have hrow := hrow.moved (hm1602.castL (by kernel_rfl))
      have hag3 := hag3.moved (hm1602.castL (by kernel_rfl))
      
      exact hfin _ _ _ (by kernel_rfl) (by kernel_rfl) (by kernel_rfl) (by assumption : Rel _ _ _ _ _) hrow
end Go.Proofs.Ytnojkclgjinjhaa
