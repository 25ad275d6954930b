/-
  AllegNear: for one that is told of: the instruction of its Id, the near one, how many are the party's own.
-/
import Derived.Test.YtnojkclgjinjhaaAlN
import Derived.Test.YtnojkclgjinjhaaFork
namespace Go.Proofs.Ytnojkclgjinjhaa
open Go Go.RowKit
attribute [local irreducible] run goO leaveK someK nextK nextT nextOT nextOD loopBody loopRest loopK fillJ tmplOf tmplJ mergeT At AtO drawOk ordOf gateOf callC callO topOp topO idxOf appOf storeOf clearOf sliceOf calleeOf calleeO topQ idxQ newRowOf resL stepOp seek
set_option maxRecDepth 100000 in
set_option maxHeartbeats 4000000 in
theorem near_26 {Q : Exit → Act → World → Prop} {R : Ending → World → Prop} [hB : Body Try.prog Q Try.f3 R] {ρ : Nm} {w0 w : World} {party : ByteArray} {A Aw : Option Addr} {n cp m c2 g2 o2 i cw B0 : Nat} {Y : In} {x : In} {near : Int} {ws : List ByteArray} {xs : List Value} {c : Int} {la : List Al} (hxs : xs = (la.map Al.cells).flatten) (hla : la.length = m) (hR : Rel [] w0 ρ [⟨x.term.cells.map .v ++ [LI x.id, LI near, .v (.slice Aw ws.length cw)], false⟩, ⟨x.cells.map .v, true⟩, ⟨Y.cells.map .v, true⟩] w) (hrow : Own ρ [⟨x.term.cells.map .v ++ [LI x.id, LI near, .v (.slice Aw ws.length cw)], false⟩, ⟨x.cells.map .v, true⟩, ⟨Y.cells.map .v, true⟩] w B0 32 15 (.slice (some ⟨g2, o2, none⟩) m c2) m xs) (e0 : ρ 0 = (g2, o2 + i * 15)) (him : i < m) (hm : m ≤ 30) (hoth : x.term.other = party) (hst : x.state = 0) (hb : (near != 0) = decide (0 < c)) (hprev : ∀ (j : Nat) (b : Al), i = j + 1 → la[j]? = some b → b.id < x.id) (d : Nat → Value)
    (hfin : ∀ (ρ' : Nm) (w' : World) (d' : Nat → Value), Ag 3 ρ ρ' [⟨x.term.cells.map .v ++ [LI x.id, LI near, .v (.slice Aw ws.length cw)], false⟩, ⟨x.cells.map .v, true⟩, ⟨Y.cells.map .v, true⟩] → Rel [] w0 ρ' [⟨x.term.cells.map .v ++ [LI x.id, LI near, .v (.slice Aw ws.length cw)], false⟩, ⟨x.cells.map .v, true⟩, ⟨Y.cells.map .v, true⟩] w' → Own ρ' [⟨x.term.cells.map .v ++ [LI x.id, LI near, .v (.slice Aw ws.length cw)], false⟩, ⟨x.cells.map .v, true⟩, ⟨Y.cells.map .v, true⟩] w' B0 32 15 (.slice (some ⟨g2, o2, none⟩) m c2) m xs → At Try.prog Q ⟨regK Try.f3 28, fillJ (tmplJ Try.f3.ntmps 0 [(0, LS party), (1, .v (.slice A n cp)), (7, .v (.slice (some ⟨g2, o2, none⟩) m c2)), (8, LI i), (9, .ptr 1 0), (10, .ptr 2 0), (11, LI c)]) d' 0, [⟨x.term.cells.map .v ++ [LI x.id, LI near, .v (.slice Aw ws.length cw)], false⟩, ⟨x.cells.map .v, true⟩, ⟨Y.cells.map .v, true⟩]⟩ ρ' w') :
    At Try.prog Q ⟨regK Try.f3 26, fillJ (tmplJ Try.f3.ntmps 0 [(0, LS party), (1, .v (.slice A n cp)), (7, .v (.slice (some ⟨g2, o2, none⟩) m c2)), (8, LI i), (9, .ptr 1 0), (10, .ptr 2 0), (11, LI c)]) d 0, [⟨x.term.cells.map .v ++ [LI x.id, LI near, .v (.slice Aw ws.length cw)], false⟩, ⟨x.cells.map .v, true⟩, ⟨Y.cells.map .v, true⟩]⟩ ρ w := by
  have hag3 := Rel.ag_ hR 3 (by kernel_rfl)
  have hag := hag3
  cases i with
  | zero =>
    have him0 : (0 : Int) < m := by omega
    refine sim_draw [] (by kernel_rfl) (by kernel_rfl) (hR.cast (by kernel_rfl)) (fun hR100 => ?_)
    have hrow := hrow.drew
    refine sim_ordN 4 [] hR100 (by kernel_rfl) trivial (fun ρ101 w101 hm101 hR101 => ?_)
    have hag3 := hag3.moved (hm101.castL (by kernel_rfl))
    have hag := hag.moved (hm101.castL (by kernel_rfl))
    have hrow := hrow.moved (hm101.castL (by kernel_rfl))
    refine sim_ord_index (.v (.slice (some ⟨g2, o2, none⟩) m c2)) m 15 0 0 0 (by kernel_rfl) (by omega) (by omega) rfl hR101 (by simp only [Nm.at_, hag.at_ 0 (by omega), e0, Nat.add_zero, Int.toNat_zero, Nat.zero_mul]) (fun hR102 => ?_)
    refine sim_ordN 4 [] hR102 (by kernel_rfl) trivial (fun ρ103 w103 hm103 hR103 => ?_)
    have hag3 := hag3.moved (hm103.castL (by kernel_rfl))
    have hag := hag.moved (hm103.castL (by kernel_rfl))
    have hrow := hrow.moved (hm103.castL (by kernel_rfl))
    refine sim_knowO hR103 128 (!(x.term.party == x.term.party && (x.term.account == x.term.account && (x.term.money == x.term.money && (x.term.other == x.term.other && (x.term.deliver == x.term.deliver && (x.term.asset == x.term.asset && (x.term.ccy == x.term.ccy && (x.term.ref == x.term.ref && (x.term.qty == x.term.qty && (x.term.amount == x.term.amount && (x.term.day == x.term.day && (x.term.trade == x.term.trade && true))))))))))))) false (by kernel_rfl) (by simp [ba_beq]) (fun hR104 => ?_)
    refine sim_ordN 7 [] hR104 (by kernel_rfl) trivial (fun ρ105 w105 hm105 hR105 => ?_)
    have hag3 := hag3.moved (hm105.castL (by kernel_rfl))
    have hag := hag.moved (hm105.castL (by kernel_rfl))
    have hrow := hrow.moved (hm105.castL (by kernel_rfl))
    refine sim_knowO hR105 135 (!x.term.other.toList == party.toList) false (by kernel_rfl) (by simp [hoth]) (fun hR106 => ?_)
    refine sim_ordN 5 [] hR106 (by kernel_rfl) trivial (fun ρ107 w107 hm107 hR107 => ?_)
    have hag3 := hag3.moved (hm107.castL (by kernel_rfl))
    have hag := hag.moved (hm107.castL (by kernel_rfl))
    have hrow := hrow.moved (hm107.castL (by kernel_rfl))
    refine sim_knowO hR107 140 (x.state != 0) false (by kernel_rfl) (by simp [hst]) (fun hR108 => ?_)
    refine sim_ordN 20 [] hR108 (by kernel_rfl) trivial (fun ρ109 w109 hm109 hR109 => ?_)
    have hag3 := hag3.moved (hm109.castL (by kernel_rfl))
    have hag := hag.moved (hm109.castL (by kernel_rfl))
    have hrow := hrow.moved (hm109.castL (by kernel_rfl))
    refine sim_ord_index (.v (.slice (some ⟨g2, o2, none⟩) m c2)) m 15 0 0 0 (by kernel_rfl) (by omega) (by omega) rfl hR109 (by simp only [Nm.at_, hag.at_ 0 (by omega), e0, Nat.add_zero, Int.toNat_zero, Nat.zero_mul]) (fun hR110 => ?_)
    refine sim_ordN 7 [] hR110 (by kernel_rfl) trivial (fun ρ111 w111 hm111 hR111 => ?_)
    have hag3 := hag3.moved (hm111.castL (by kernel_rfl))
    have hag := hag.moved (hm111.castL (by kernel_rfl))
    have hrow := hrow.moved (hm111.castL (by kernel_rfl))
    refine sim_ord_endR hR111 (by kernel_rfl) (fun hR112 => ?_)
    refine sim_know 168 (!(near != 0) == decide (c > 0)) false (by kernel_rfl) (by rw [hb]; exact bne_self_eq_false _) ?_
    refine sim_run 5 [] (hR112.cast (by kernel_rfl)) (by kernel_rfl) trivial (fun ρ113 w113 hm113 hR113 => ?_)
    have hag3 := hag3.moved (hm113.castL (by kernel_rfl))
    have hag := hag.moved (hm113.castL (by kernel_rfl))
    have hrow := hrow.moved (hm113.castL (by kernel_rfl))
    
    have hRn := (by assumption : Rel _ _ _ _ _).cast (rs' := [⟨x.term.cells.map .v ++ [LI x.id, LI near, .v (.slice Aw ws.length cw)], false⟩, ⟨x.cells.map .v, true⟩, ⟨Y.cells.map .v, true⟩]) (by kernel_rfl)
    refine sim_to (regK Try.f3 28) (tmplJ Try.f3.ntmps 0 [(0, LS party), (1, .v (.slice A n cp)), (7, .v (.slice (some ⟨g2, o2, none⟩) m c2)), (8, LI 0), (9, .ptr 1 0), (10, .ptr 2 0), (11, LI c)]) [⟨x.term.cells.map .v ++ [LI x.id, LI near, .v (.slice Aw ws.length cw)], false⟩, ⟨x.cells.map .v, true⟩, ⟨Y.cells.map .v, true⟩] (by kernel_rfl) (by kernel_rfl) (by kernel_rfl) (fun d9 => ?_)
    exact hfin _ _ d9 ⟨hag3.ag, by show 3 ≤ 3; decide⟩ hRn (hrow.castR (by kernel_rfl))
  | succ j =>
    obtain ⟨b, hbj⟩ : ∃ b, la[j]? = some b := ⟨_, List.getElem?_eq_getElem (by omega)⟩
    have hlt := hprev j b rfl hbj
    have hpj : ((((j + 1 : Nat) : Int)) - 1).toNat = j := by omega
    subst hxs
    refine sim_seeO (xss := la.map Al.cells) (sz := 15) (n := m) b.cells j 3 (by kernel_rfl) (by rw [List.getElem?_map, hbj]; rfl) hrow (by intro y hy; obtain ⟨o, _, rfl⟩ := List.mem_map.1 hy; rfl) (by omega) (by omega) hR (by kernel_rfl) (fun ρE hmE e3 hRE => ?_)
    have hrow := hrow.moved hmE
    have hag3 := hag3.moved hmE
    have e0 := (hmE.agree 0 (by show 0 < 3; omega)).trans e0
    have hag := hRE.ag_ 4 (by kernel_rfl)
    refine sim_draw [] (by kernel_rfl) (by kernel_rfl) (hRE.cast (by kernel_rfl)) (fun hR200 => ?_)
    have hrow := hrow.drew
    refine sim_ordN 4 [] hR200 (by kernel_rfl) trivial (fun ρ201 w201 hm201 hR201 => ?_)
    have hag3 := hag3.moved (hm201.castL (by kernel_rfl))
    have hag := hag.moved (hm201.castL (by kernel_rfl))
    have hrow := hrow.moved (hm201.castL (by kernel_rfl))
    refine sim_ord_index (.v (.slice (some ⟨g2, o2, none⟩) m c2)) m 15 ((j + 1 : Nat) : Int) 0 0 (by kernel_rfl) (by omega) (by omega) rfl hR201 (by simp only [Nm.at_, hag.at_ 0 (by omega), e0, Nat.add_zero, Int.toNat_natCast]) (fun hR202 => ?_)
    refine sim_ordN 4 [] hR202 (by kernel_rfl) trivial (fun ρ203 w203 hm203 hR203 => ?_)
    have hag3 := hag3.moved (hm203.castL (by kernel_rfl))
    have hag := hag.moved (hm203.castL (by kernel_rfl))
    have hrow := hrow.moved (hm203.castL (by kernel_rfl))
    refine sim_knowO hR203 128 (!(x.term.party == x.term.party && (x.term.account == x.term.account && (x.term.money == x.term.money && (x.term.other == x.term.other && (x.term.deliver == x.term.deliver && (x.term.asset == x.term.asset && (x.term.ccy == x.term.ccy && (x.term.ref == x.term.ref && (x.term.qty == x.term.qty && (x.term.amount == x.term.amount && (x.term.day == x.term.day && (x.term.trade == x.term.trade && true))))))))))))) false (by kernel_rfl) (by simp [ba_beq]) (fun hR204 => ?_)
    refine sim_ordN 7 [] hR204 (by kernel_rfl) trivial (fun ρ205 w205 hm205 hR205 => ?_)
    have hag3 := hag3.moved (hm205.castL (by kernel_rfl))
    have hag := hag.moved (hm205.castL (by kernel_rfl))
    have hrow := hrow.moved (hm205.castL (by kernel_rfl))
    refine sim_knowO hR205 135 (!x.term.other.toList == party.toList) false (by kernel_rfl) (by simp [hoth]) (fun hR206 => ?_)
    refine sim_ordN 5 [] hR206 (by kernel_rfl) trivial (fun ρ207 w207 hm207 hR207 => ?_)
    have hag3 := hag3.moved (hm207.castL (by kernel_rfl))
    have hag := hag.moved (hm207.castL (by kernel_rfl))
    have hrow := hrow.moved (hm207.castL (by kernel_rfl))
    refine sim_knowO hR207 140 (x.state != 0) false (by kernel_rfl) (by simp [hst]) (fun hR208 => ?_)
    refine sim_ordN 3 [] hR208 (by kernel_rfl) trivial (fun ρ209 w209 hm209 hR209 => ?_)
    have hag3 := hag3.moved (hm209.castL (by kernel_rfl))
    have hag := hag.moved (hm209.castL (by kernel_rfl))
    have hrow := hrow.moved (hm209.castL (by kernel_rfl))
    refine sim_knowO hR209 143 (decide ((↑(j + 1) : Int) > 0)) true (by kernel_rfl) (decide_eq_true (by omega)) (fun hR210 => ?_)
    refine sim_ordN 3 [⟨26, 26, LI (IntKind.i64.wrap ((↑(j + 1) : Int) - 1)), LI ((↑(j + 1) : Int) - 1)⟩] hR210 (by kernel_rfl) ⟨eqi (IntWalk.i64_in _ (by omega)), trivial⟩ (fun ρ211 w211 hm211 hR211 => ?_)
    have hag3 := hag3.moved (hm211.castL (by kernel_rfl))
    have hag := hag.moved (hm211.castL (by kernel_rfl))
    have hrow := hrow.moved (hm211.castL (by kernel_rfl))
    refine sim_ord_index (.v (.slice (some ⟨g2, o2, none⟩) m c2)) m 15 ((((j + 1 : Nat) : Int)) - 1) 3 0 (by kernel_rfl) (by omega) (by omega) rfl hR211 (by simp only [Nm.at_, hag.at_ 3 (by omega), e3, Nat.add_zero, hpj]) (fun hR213 => ?_)
    refine sim_ordN 4 [] hR213 (by kernel_rfl) trivial (fun ρ214 w214 hm214 hR214 => ?_)
    have hag3 := hag3.moved (hm214.castL (by kernel_rfl))
    have hag := hag.moved (hm214.castL (by kernel_rfl))
    have hrow := hrow.moved (hm214.castL (by kernel_rfl))
    refine sim_ord_index (.v (.slice (some ⟨g2, o2, none⟩) m c2)) m 15 ((j + 1 : Nat) : Int) 0 0 (by kernel_rfl) (by omega) (by omega) rfl hR214 (by simp only [Nm.at_, hag.at_ 0 (by omega), e0, Nat.add_zero, Int.toNat_natCast]) (fun hR215 => ?_)
    refine sim_ordN 6 [] hR215 (by kernel_rfl) trivial (fun ρ216 w216 hm216 hR216 => ?_)
    have hag3 := hag3.moved (hm216.castL (by kernel_rfl))
    have hag := hag.moved (hm216.castL (by kernel_rfl))
    have hrow := hrow.moved (hm216.castL (by kernel_rfl))
    refine sim_knowO hR216 158 (decide (b.id ≥ x.id)) false (by kernel_rfl) (decide_eq_false (by omega)) (fun hR217 => ?_)
    refine sim_ordN 2 [] hR217 (by kernel_rfl) trivial (fun ρ218 w218 hm218 hR218 => ?_)
    have hag3 := hag3.moved (hm218.castL (by kernel_rfl))
    have hag := hag.moved (hm218.castL (by kernel_rfl))
    have hrow := hrow.moved (hm218.castL (by kernel_rfl))
    refine sim_ord_index (.v (.slice (some ⟨g2, o2, none⟩) m c2)) m 15 ((j + 1 : Nat) : Int) 0 0 (by kernel_rfl) (by omega) (by omega) rfl hR218 (by simp only [Nm.at_, hag.at_ 0 (by omega), e0, Nat.add_zero, Int.toNat_natCast]) (fun hR219 => ?_)
    refine sim_ordN 7 [] hR219 (by kernel_rfl) trivial (fun ρ220 w220 hm220 hR220 => ?_)
    have hag3 := hag3.moved (hm220.castL (by kernel_rfl))
    have hag := hag.moved (hm220.castL (by kernel_rfl))
    have hrow := hrow.moved (hm220.castL (by kernel_rfl))
    refine sim_ord_endR hR220 (by kernel_rfl) (fun hR221 => ?_)
    refine sim_know 168 (!(near != 0) == decide (c > 0)) false (by kernel_rfl) (by rw [hb]; exact bne_self_eq_false _) ?_
    refine sim_run 5 [] (hR221.cast (by kernel_rfl)) (by kernel_rfl) trivial (fun ρ222 w222 hm222 hR222 => ?_)
    have hag3 := hag3.moved (hm222.castL (by kernel_rfl))
    have hag := hag.moved (hm222.castL (by kernel_rfl))
    have hrow := hrow.moved (hm222.castL (by kernel_rfl))
    
    have hRn := (by assumption : Rel _ _ _ _ _).cast (rs' := [⟨x.term.cells.map .v ++ [LI x.id, LI near, .v (.slice Aw ws.length cw)], false⟩, ⟨x.cells.map .v, true⟩, ⟨Y.cells.map .v, true⟩, ⟨b.cells.map .v, false⟩]) (by kernel_rfl)
    have hagN := hRn.ag_ 3 (by kernel_rfl)
    have hR2 : Rel [] w0 _ [⟨x.term.cells.map .v ++ [LI x.id, LI near, .v (.slice Aw ws.length cw)], false⟩, ⟨x.cells.map .v, true⟩, ⟨Y.cells.map .v, true⟩] _ := hRn.cut rfl (Agree.refl _ _) (by kernel_rfl)
    have hrow2 := (hrow.castR (rs' := [⟨x.term.cells.map .v ++ [LI x.id, LI near, .v (.slice Aw ws.length cw)], false⟩, ⟨x.cells.map .v, true⟩, ⟨Y.cells.map .v, true⟩, ⟨b.cells.map .v, false⟩]) (by kernel_rfl)).cut (rs := [⟨x.term.cells.map .v ++ [LI x.id, LI near, .v (.slice Aw ws.length cw)], false⟩, ⟨x.cells.map .v, true⟩, ⟨Y.cells.map .v, true⟩]) hagN rfl rfl
    refine sim_to (regK Try.f3 28) (tmplJ Try.f3.ntmps 0 [(0, LS party), (1, .v (.slice A n cp)), (7, .v (.slice (some ⟨g2, o2, none⟩) m c2)), (8, LI ((j + 1 : Nat) : Int)), (9, .ptr 1 0), (10, .ptr 2 0), (11, LI c)]) [⟨x.term.cells.map .v ++ [LI x.id, LI near, .v (.slice Aw ws.length cw)], false⟩, ⟨x.cells.map .v, true⟩, ⟨Y.cells.map .v, true⟩] (by kernel_rfl) (by kernel_rfl) (by kernel_rfl) (fun d9 => ?_)
    exact hfin _ _ d9 ⟨hag3.ag, by show 3 ≤ 3; decide⟩ hR2 hrow2
end Go.Proofs.Ytnojkclgjinjhaa
