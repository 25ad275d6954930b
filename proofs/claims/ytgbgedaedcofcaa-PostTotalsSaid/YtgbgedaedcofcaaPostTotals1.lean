/-
  PostTotals: behind each step, what is looked at for each key, and for the step's asset.
-/
import Derived.Test.YtgbgedaedcofcaaPstQ
namespace Go.Proofs.Ytgbgedaedcofcaa
open Go Go.RowKit
theorem LdO.reg {ρ : Nm} {rs rs' : List Reg} {w : World} {B gl : Nat} {s : LSt} (h : LdO ρ rs w B gl s) (e : rs = rs') : LdO ρ rs' w B gl s := e ▸ h
attribute [local irreducible] run goO leaveK someK nextK nextT nextOT nextOD loopBody loopRest loopK fillJ tmplOf tmplJ mergeT At AtO drawOk ordOf gateOf callC callO topOp topO idxOf appOf storeOf clearOf sliceOf calleeOf calleeO topQ idxQ newRowOf resL stepOp seek
set_option maxRecDepth 100000 in
set_option maxHeartbeats 4000000 in
theorem totals_key {Q : Exit → Act → World → Prop} {R : Ending → World → Prop} [hB : Body Try.prog Q Try.f10 R] {ρ : Nm} {w0 w : World} {B gl g : Nat} {s : LSt} {o : OpL} {SL : Value} {gb ob n cp i j Bk : Nat} {less b1 b2 b3 : Int} {k : Key} {xs : List Value} (hR : Rel [] w0 ρ [⟨ptrG g, false⟩, ⟨o.cells.map .v, false⟩, ⟨o.cells.map .v, true⟩, ⟨[LS k.1, LS k.2], false⟩, ⟨[LI b1, LI b2, LI b3], true⟩] w) (hld : LdO ρ [⟨ptrG g, false⟩, ⟨o.cells.map .v, false⟩, ⟨o.cells.map .v, true⟩, ⟨[LS k.1, LS k.2], false⟩, ⟨[LI b1, LI b2, LI b3], true⟩] w B gl s) (hsg : s.g = g) (hrow : Own ρ [⟨ptrG g, false⟩, ⟨o.cells.map .v, false⟩, ⟨o.cells.map .v, true⟩, ⟨[LS k.1, LS k.2], false⟩, ⟨[LI b1, LI b2, LI b3], true⟩] w Bk 24 2 (.slice (some ⟨gb, ob, none⟩) n cp) n xs)
    (e3 : ρ 3 = (gb, ob + j * 2)) (hlt : j < n) (hn : n ≤ 1000000) (hb1 : 0 ≤ b1 ∧ b1 ≤ 1152921504606846976) (hb2 : 0 ≤ b2 ∧ b2 ≤ 1152921504606846976) (hb3 : 0 ≤ b3 ∧ b3 ≤ 1152921504606846976) (hlen : s.l.length ≤ 1000000) (htot : clampV (sumI (allOf s.l (sortKs (pickKs [k.2] s.l)))) = (look k.2 s.li).getD 0) (d : Nat → Value)
    (hfin : ∀ (c' : Cfg) (ρ' : Nm) (w' : World), c'.k = [] → mergeT (tmplJ Try.f10.ntmps 0 [(0, .v SL), (3, .ptr 0 0), (4, LI less), (5, LI i), (6, .ptr 2 0), (7, .v (.slice (some ⟨gb, ob, none⟩) n cp)), (8, LI ((j : Int) + 1))]) c'.tmps = c'.tmps → (tmplJ Try.f10.ntmps 0 [(0, .v SL), (3, .ptr 0 0), (4, LI less), (5, LI i), (6, .ptr 2 0), (7, .v (.slice (some ⟨gb, ob, none⟩) n cp)), (8, LI ((j : Int) + 1))]).length = c'.tmps.length → Ag 3 ρ ρ' c'.rs → Rel [] w0 ρ' c'.rs w' → c'.rs.take 3 = [⟨ptrG g, false⟩, ⟨o.cells.map .v, false⟩, ⟨o.cells.map .v, true⟩] → LdO ρ' c'.rs w' B gl s → Own ρ' c'.rs w' Bk 24 2 (.slice (some ⟨gb, ob, none⟩) n cp) n xs → At Try.prog Q c' ρ' w') :
    At Try.prog Q ⟨regK Try.f10 27, fillJ (tmplJ Try.f10.ntmps 0 [(0, .v SL), (3, .ptr 0 0), (4, LI less), (5, LI i), (6, .ptr 2 0), (7, .v (.slice (some ⟨gb, ob, none⟩) n cp)), (8, LI j), (9, .ptr 4 0)]) d 0, [⟨ptrG g, false⟩, ⟨o.cells.map .v, false⟩, ⟨o.cells.map .v, true⟩, ⟨[LS k.1, LS k.2], false⟩, ⟨[LI b1, LI b2, LI b3], true⟩]⟩ ρ w := by
  have e0 := hld.at_
  have hag := Rel.ag_ hR 5 (by kernel_rfl)
  have hag3 := Rel.ag_ hR 3 (by kernel_rfl)
  refine sim_draw [] (by kernel_rfl) (by kernel_rfl) (hR.cast (by kernel_rfl)) (fun hR100 => ?_)
  have hld := hld.drew
  have hrow := hrow.drew
  refine sim_ordN 4 [] hR100 (by kernel_rfl) trivial (fun ρ101 w101 hm101 hR101 => ?_)
  have hag := hag.moved (hm101.castL (by kernel_rfl))
  have hag3 := hag3.moved (hm101.castL (by kernel_rfl))
  have hld := hld.moved (hm101.castL (by kernel_rfl))
  have hrow := hrow.moved (hm101.castL (by kernel_rfl))
  refine sim_knowO hR101 87 (decide (b1 < 0)) false (by kernel_rfl) (decide_eq_false (by omega)) (fun hR102 => ?_)
  refine sim_ordN 5 [] hR102 (by kernel_rfl) trivial (fun ρ103 w103 hm103 hR103 => ?_)
  have hag := hag.moved (hm103.castL (by kernel_rfl))
  have hag3 := hag3.moved (hm103.castL (by kernel_rfl))
  have hld := hld.moved (hm103.castL (by kernel_rfl))
  have hrow := hrow.moved (hm103.castL (by kernel_rfl))
  refine sim_knowO hR103 92 (decide (b2 < 0)) false (by kernel_rfl) (decide_eq_false (by omega)) (fun hR104 => ?_)
  refine sim_ordN 5 [] hR104 (by kernel_rfl) trivial (fun ρ105 w105 hm105 hR105 => ?_)
  have hag := hag.moved (hm105.castL (by kernel_rfl))
  have hag3 := hag3.moved (hm105.castL (by kernel_rfl))
  have hld := hld.moved (hm105.castL (by kernel_rfl))
  have hrow := hrow.moved (hm105.castL (by kernel_rfl))
  refine sim_knowO hR105 97 (decide (b3 < 0)) false (by kernel_rfl) (decide_eq_false (by omega)) (fun hR106 => ?_)
  refine sim_ordN 5 [] hR106 (by kernel_rfl) trivial (fun ρ107 w107 hm107 hR107 => ?_)
  have hag := hag.moved (hm107.castL (by kernel_rfl))
  have hag3 := hag3.moved (hm107.castL (by kernel_rfl))
  have hld := hld.moved (hm107.castL (by kernel_rfl))
  have hrow := hrow.moved (hm107.castL (by kernel_rfl))
  refine sim_knowO hR107 102 (decide (b1 > 1152921504606846976)) false (by kernel_rfl) (decide_eq_false (by omega)) (fun hR108 => ?_)
  refine sim_ordN 5 [] hR108 (by kernel_rfl) trivial (fun ρ109 w109 hm109 hR109 => ?_)
  have hag := hag.moved (hm109.castL (by kernel_rfl))
  have hag3 := hag3.moved (hm109.castL (by kernel_rfl))
  have hld := hld.moved (hm109.castL (by kernel_rfl))
  have hrow := hrow.moved (hm109.castL (by kernel_rfl))
  refine sim_knowO hR109 107 (decide (b2 > 1152921504606846976)) false (by kernel_rfl) (decide_eq_false (by omega)) (fun hR110 => ?_)
  refine sim_ordN 5 [] hR110 (by kernel_rfl) trivial (fun ρ111 w111 hm111 hR111 => ?_)
  have hag := hag.moved (hm111.castL (by kernel_rfl))
  have hag3 := hag3.moved (hm111.castL (by kernel_rfl))
  have hld := hld.moved (hm111.castL (by kernel_rfl))
  have hrow := hrow.moved (hm111.castL (by kernel_rfl))
  refine sim_knowO hR111 112 (decide (b3 > 1152921504606846976)) false (by kernel_rfl) (decide_eq_false (by omega)) (fun hR112 => ?_)
  refine sim_ordN 6 [] hR112 (by kernel_rfl) trivial (fun ρ113 w113 hm113 hR113 => ?_)
  have hag := hag.moved (hm113.castL (by kernel_rfl))
  have hag3 := hag3.moved (hm113.castL (by kernel_rfl))
  have hld := hld.moved (hm113.castL (by kernel_rfl))
  have hrow := hrow.moved (hm113.castL (by kernel_rfl))
  refine sim_ord_index (.v (.slice (some ⟨gb, ob, none⟩) n cp)) n 2 j 3 0 (by kernel_rfl) (by omega) (by omega) rfl hR113 (by simp only [Nm.at_, hag.at_ 3 (by omega), e3, Nat.add_zero, Int.toNat_natCast]) (fun hR114 => ?_)
  refine sim_ordN 5 [] hR114 (by kernel_rfl) trivial (fun ρ115 w115 hm115 hR115 => ?_)
  have hag := hag.moved (hm115.castL (by kernel_rfl))
  have hag3 := hag3.moved (hm115.castL (by kernel_rfl))
  have hld := hld.moved (hm115.castL (by kernel_rfl))
  have hrow := hrow.moved (hm115.castL (by kernel_rfl))
  refine sim_ord_index (.v (.slice (some ⟨gb, ob, none⟩) n cp)) n 2 j 3 0 (by kernel_rfl) (by omega) (by omega) rfl hR115 (by simp only [Nm.at_, hag.at_ 3 (by omega), e3, Nat.add_zero, Int.toNat_natCast]) (fun hR116 => ?_)
  refine sim_ordN 2 [] hR116 (by kernel_rfl) trivial (fun ρ117 w117 hm117 hR117 => ?_)
  have hag := hag.moved (hm117.castL (by kernel_rfl))
  have hag3 := hag3.moved (hm117.castL (by kernel_rfl))
  have hld := hld.moved (hm117.castL (by kernel_rfl))
  have hrow := hrow.moved (hm117.castL (by kernel_rfl))
  refine sim_ord_call (T := []) (w0 := w0) 21 [.v (Value.pointer (some (Addr.mk g 0 none))), LS k.snd] (by kernel_rfl) ?_
  refine Calls.mono (total_po _ _ (s.m) (s.l) (s.ck) _ _ (pos_g hld.ld hsg) (by assumption)) ?_
  rw [htot]
  rintro e118 w118 ⟨rfl, hb118⟩
  have hR118 := (hR117).call hb118 (LI ((look k.snd s.li).getD 0))
  have hld := hld.below hb118
  have hrow := hrow.below hb118
  refine BackO.of (LI ((look k.snd s.li).getD 0)) hR118 rfl ?_
  refine sim_ord_call (T := []) (w0 := w0) 32 [.ptr 0 0, LS k.snd] (by kernel_rfl) ?_
  have ez0_119 := (hag.at_ 0 (by omega)).trans e0
  simp only [denL, LV.den, Nm.at_, ez0_119, Nat.add_zero]
  refine Calls.mono (issued_any _ _ _ _ _ hld.ld) ?_
  skip
  rintro e119 w119 ⟨rfl, hb119⟩
  have hR119 := (hR118).call hb119 (LI ((look k.snd s.li).getD 0))
  have hld := hld.below hb119
  have hrow := hrow.below hb119
  refine BackO.of (LI ((look k.snd s.li).getD 0)) hR119 rfl ?_
  refine sim_ordN 2 [] hR119 (by kernel_rfl) trivial (fun ρ120 w120 hm120 hR120 => ?_)
  have hag := hag.moved (hm120.castL (by kernel_rfl))
  have hag3 := hag3.moved (hm120.castL (by kernel_rfl))
  have hld := hld.moved (hm120.castL (by kernel_rfl))
  have hrow := hrow.moved (hm120.castL (by kernel_rfl))
  refine sim_ord_endR hR120 (by kernel_rfl) (fun hR121 => ?_)
  refine sim_know 131 ((look k.snd s.li).getD 0 != (look k.snd s.li).getD 0) false (by kernel_rfl) (bne_self_eq_false _) ?_
  refine sim_run 8 [⟨25, 1, LI (IntKind.i64.wrap ((↑j : Int) + 1)), LI ((↑j : Int) + 1)⟩] (hR121.cast (by kernel_rfl)) (by kernel_rfl) ⟨eqi (IntWalk.i64_in _ (by omega)), trivial⟩ (fun ρ122 w122 hm122 hR122 => ?_)
  have hag := hag.moved (hm122.castL (by kernel_rfl))
  have hag3 := hag3.moved (hm122.castL (by kernel_rfl))
  have hld := hld.moved (hm122.castL (by kernel_rfl))
  have hrow := hrow.moved (hm122.castL (by kernel_rfl))
  
  exact hfin _ _ _ (by kernel_rfl) (by kernel_rfl) (by kernel_rfl) hag3 (by assumption : Rel _ _ _ _ _) (by kernel_rfl) hld hrow
end Go.Proofs.Ytgbgedaedcofcaa
