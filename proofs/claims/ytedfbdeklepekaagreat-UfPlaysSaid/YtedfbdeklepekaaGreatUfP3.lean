/-
  UfPlays: the class and the classes are told, and kept.
-/
import Derived.Test.YtedfbdeklepekaaGreatUfP2
namespace Go.Proofs.YtedfbdeklepekaaGreat
open Go Go.RowKit
attribute [local irreducible] run goO leaveK someK nextK nextT nextOT nextOD loopBody loopRest loopK fillJ tmplOf tmplJ mergeT At AtO drawOk ordOf gateOf callC callO topOp topO idxOf appOf storeOf clearOf sliceOf calleeOf calleeO topQ idxQ newRowOf resL stepOp seek
set_option maxRecDepth 100000 in
set_option maxHeartbeats 4000000 in
theorem plays_mid {Q : Exit → Act → World → Prop} {R : Ending → World → Prop} [hB : Body Tryz.prog Q Tryz.f3 R] {ρ : Nm} {w0 w : World} {qU : UfQ} {qR : RfP} {b : Nat} {s : KSt} {u : List Nat} {Ao : Option Addr} {k c i : Nat} {o : OpU} (hR : Rel [] w0 ρ [⟨[], false⟩, ⟨[], false⟩, ⟨[], false⟩, ⟨[], false⟩, ⟨[LI o.kind, LI o.n, .v (.slice o.l.A o.l.n o.l.c)], true⟩] w) (hS : LvS w0.heap.size qU qR b s u u ρ [⟨[], false⟩, ⟨[], false⟩, ⟨[], false⟩, ⟨[], false⟩, ⟨[LI o.kind, LI o.n, .v (.slice o.l.A o.l.n o.l.c)], true⟩] w) (hL : Reads w0 w0.heap.size 1 o.l.A o.l.n (ints o.l.xs)) (hln : o.l.n ≤ 60) (_ : Is64 o.n) (e0 : ρ 0 = (qU.b, 0)) (e1 : ρ 1 = (qR.b, 0)) (e2 : ρ 2 = (b, 0)) (hi : i < 1000) (d : Nat → Value)
    (hfin : ∀ (c' : Cfg) (ρ' : Nm) (w' : World) (qU' : UfQ) (qR' : RfP) (s' : KSt) (u' : List Nat), c'.k = [] → mergeT (tmplJ Tryz.f3.ntmps 0 [(2, .v (.slice Ao k c)), (7, .ptr 0 0), (9, .ptr 1 0), (11, .ptr 2 0), (12, LI ((i : Int) + 1))]) c'.tmps = c'.tmps → (tmplJ Tryz.f3.ntmps 0 [(2, .v (.slice Ao k c)), (7, .ptr 0 0), (9, .ptr 1 0), (11, .ptr 2 0), (12, LI ((i : Int) + 1))]).length = c'.tmps.length → Ag 3 ρ ρ' c'.rs → Rel [] w0 ρ' c'.rs w' → c'.rs.take 3 = [⟨[], false⟩, ⟨[], false⟩, ⟨[], false⟩] → LvS w0.heap.size qU' qR' b s' u' u' ρ' c'.rs w' → qU'.b = qU.b → qR'.b = qR.b → At Tryz.prog Q c' ρ' w') :
    At Tryz.prog Q ⟨regK Tryz.f3 31, fillJ (tmplJ Tryz.f3.ntmps 0 [(2, .v (.slice Ao k c)), (7, .ptr 0 0), (9, .ptr 1 0), (11, .ptr 2 0), (12, LI (i : Int)), (13, .ptr 4 0)]) d 0, [⟨[], false⟩, ⟨[], false⟩, ⟨[], false⟩, ⟨[], false⟩, ⟨[LI o.kind, LI o.n, .v (.slice o.l.A o.l.n o.l.c)], true⟩]⟩ ρ w := by
  have hag := hR.ag_ 3 (by kernel_rfl)
  have hcb : (clsU u o.n).length ≤ 1000 := Nat.le_trans (clsU_len u o.n) hS.big
  have hnl : ((clsU u o.n).map Int.ofNat).length = (clsU u o.n).length := List.length_map _
  refine sim_run 3 [] (hR.cast (by kernel_rfl)) (by kernel_rfl) trivial (fun ρ100 w100 hm100 hR100 => ?_)
  have hS := hS.moved (hm100.castL (by kernel_rfl))
  have hag := hag.moved (hm100.castL (by kernel_rfl))
  refine sim_call 15 [.ptr 0 0, LI o.n] (by kernel_rfl) ?_
  have ez0_101 := (hag.at_ 0 (by omega)).trans e0
  simp only [denL, LV.den, Nm.at_, ez0_101, Nat.add_zero]
  refine Calls.mono (classU_any (qU) (u) _ _ hS.uf.is hS.good hS.big) ?_
  rintro e101 w101 ⟨Ac, cc, rfl, hC, hb101⟩
  have hCf : ∀ g, (Value.slice Ac (clsU u o.n).length cc).ownBlock = some g → ¬ (qU.has g ∨ qR.has g ∨ bkS b s g) := fun g hg hh => by have h1 := hS.lt g hh; have h2 := own_ge hC hg; omega
  have hCg : ∀ g, (Value.slice Ac (clsU u o.n).length cc).ownBlock = some g → w0.heap.size ≤ g := fun g hg => Nat.le_trans (hR100).keeps.size (own_ge hC hg)
  have hC := Own.start hR100 hC
  have hS := hS.below hb101
  have hR101 := hR100.below hb101
  refine Back.of (.v (Value.slice Ac (clsU u o.n).length cc)) hR101 rfl ?_
  refine sim_run 1 [] (hR101.cast (by kernel_rfl)) (by kernel_rfl) trivial (fun ρ102 w102 hm102 hR102 => ?_)
  have hag := hag.moved (hm102.castL (by kernel_rfl))
  have hC := hC.moved (hm102.castL (by kernel_rfl))
  have hS := hS.moved (hm102.castL (by kernel_rfl))
  refine sim_call 16 [.ptr 0 0] (by kernel_rfl) ?_
  have ez0_103 := (hag.at_ 0 (by omega)).trans e0
  simp only [denL, LV.den, Nm.at_, ez0_103, Nat.add_zero]
  refine Calls.mono (classesU_any (qU) (u) _ hS.uf.is hS.good hS.big) ?_
  intro e103 w103 hcl103
  obtain ⟨Aa, ca, rowsA, rfl, hla, hAs, hA, hAp, hAg, hb103⟩ := clsR_sta hR102 hcl103
  have hAgR := (hR102).keeps.size
  have hAb0 := fun y (hy : (RL.mk (.slice Aa (Uf.classes u).length ca) rowsA).has y) (hh : qU.has y ∨ qR.has y ∨ bkS b s y) => Nat.not_lt.2 (hAg y hy) (hS.lt y hh)
  have hAC := fun y (hy : (RL.mk (.slice Aa (Uf.classes u).length ca) rowsA).has y) (hh : (Value.slice Ac (clsU u o.n).length cc).ownBlock = some y) => Nat.not_lt.2 (hAg y hy) (own_lt hC.own hh)
  have hAge := fun y (hy : (RL.mk (.slice Aa (Uf.classes u).length ca) rowsA).has y) => Nat.le_trans hAgR (hAg y hy)
  have hC := hC.below hb103
  have hS := hS.below hb103
  have hR103 := hR102.below hb103
  refine Back.of (.v (Value.slice Aa (Uf.classes u).length ca)) hR103 rfl ?_
  refine sim_run 7 [] (hR103.cast (by kernel_rfl)) (by kernel_rfl) trivial (fun ρ104 w104 hm104 hR104 => ?_)
  have hag := hag.moved (hm104.castL (by kernel_rfl))
  have hA := hA.moved (hm104.castL (by kernel_rfl))
  have hC := hC.moved (hm104.castL (by kernel_rfl))
  have hS := hS.moved (hm104.castL (by kernel_rfl))
  refine sim_call 17 [.ptr 2 0, .v (Value.slice Ac (clsU u o.n).length cc)] (by kernel_rfl) ?_
  have ez2_105 := (hag.at_ 2 (by omega)).trans e2
  simp only [denL, LV.den, Nm.at_, ez2_105, Nat.add_zero]
  refine Calls.mono (intsB_any (b) (s) _ hS.bk.is hS.kg _ _ _ (((clsU u o.n).map Int.ofNat)) (by rw [← nats_ints]; exact own_base0 hC.own (Nat.zero_le _)) (by omega) (by omega) (fun r hr g hg he => hCf g he (.inr (.inr (.inr (.inr (.inr ⟨r, .inl hr, hg⟩))))))) ?_
  rintro e105 w105 ⟨rfl, s2, hB2, hg2, hr2, hk2, hq2⟩
  have hR105 := (hR104).keptW hk2 [] (by kernel_rfl) (by simp) (fun y hy => hS.far y (.inr (.inr (wS_bk hy)))) (fun y hy => hS.ge y (.inr (.inr (wS_bk hy))))
  have hltA := RLV.lt hA.is
  have hS2 := hS.setB hR104 hB2 hg2 hk2 hq2 (fun y hy => ⟨fun h1 => hCf y hy (.inl h1), fun h1 => hCf y hy (.inr (.inl h1)), hCg y hy, hC.far y hy⟩)
  have hAb : ∀ y, (RL.mk (.slice Aa (Uf.classes u).length ca) rowsA).has y → ¬ bkS b s2 y := fun y hy hh => hh.elim (fun e => hAb0 y hy (.inr (.inr (.inl e)))) (fun h1 => (hq2 y h1).elim (fun h2 => hAb0 y hy (.inr (.inr (.inr h2)))) (fun h2 => h2.elim (fun h3 => hAC y hy h3) (fun h3 => absurd (hltA y hy) (Nat.not_lt.2 h3))))
  have hA := hA.kept hk2 (fun y hy hh => hAb0 y hy (.inr (.inr (wS_bk hh))))
  have hC := hC.kept1 hk2 (fun g hg hh => hCf g hg (.inr (.inr (wS_bk hh))))
  have hS := hS2
  refine Back.of (.tup []) hR105 rfl ?_
  refine sim_run 4 [] (hR105.cast (by kernel_rfl)) (by kernel_rfl) trivial (fun ρ106 w106 hm106 hR106 => ?_)
  have hag := hag.moved (hm106.castL (by kernel_rfl))
  have hS2 := hS2.moved (hm106.castL (by kernel_rfl))
  have hA := hA.moved (hm106.castL (by kernel_rfl))
  have hC := hC.moved (hm106.castL (by kernel_rfl))
  have hS := hS.moved (hm106.castL (by kernel_rfl))
  refine sim_call 18 [.ptr 1 0] (by kernel_rfl) ?_
  have ez1_107 := (hag.at_ 1 (by omega)).trans e1
  simp only [denL, LV.den, Nm.at_, ez1_107, Nat.add_zero]
  refine Calls.mono (classes12_any (qR) (u) _ hS.rf.is hS.good hS.big) ?_
  intro e107 w107 hcl107
  obtain ⟨Aw, cw, rowsW, rfl, hlw, hWs, hW, hWp, hWg, hb107⟩ := clsR_sta hR106 hcl107
  have hWb := fun y (hy : (RL.mk (.slice Aw (Uf.classes u).length cw) rowsW).has y) (hh : bkS b s2 y) => Nat.not_lt.2 (hWg y hy) (hS.lt y (.inr (.inr hh)))
  have hS2 := hS2.below hb107
  have hA := hA.below hb107
  have hC := hC.below hb107
  have hS := hS.below hb107
  have hR107 := hR106.below hb107
  refine Back.of (.v (Value.slice Aw (Uf.classes u).length cw)) hR107 rfl ?_
  refine sim_run 4 [] (hR107.cast (by kernel_rfl)) (by kernel_rfl) trivial (fun ρ108 w108 hm108 hR108 => ?_)
  have hag := hag.moved (hm108.castL (by kernel_rfl))
  have hW := hW.moved (hm108.castL (by kernel_rfl))
  have hS2 := hS2.moved (hm108.castL (by kernel_rfl))
  have hA := hA.moved (hm108.castL (by kernel_rfl))
  have hC := hC.moved (hm108.castL (by kernel_rfl))
  have hS := hS.moved (hm108.castL (by kernel_rfl))
  
  have e0 := (hag.at_ 0 (by omega)).trans e0
  have e1 := (hag.at_ 1 (by omega)).trans e1
  have e2 := (hag.at_ 2 (by omega)).trans e2
  have hRz := ((by assumption : Rel _ _ _ _ _)).cast (rs' := [⟨[], false⟩, ⟨[], false⟩, ⟨[], false⟩, ⟨[], false⟩, ⟨[LI o.kind, LI o.n, .v (.slice o.l.A o.l.n o.l.c)], true⟩]) (by kernel_rfl)
  have hSz := hS.castR (rs' := [⟨[], false⟩, ⟨[], false⟩, ⟨[], false⟩, ⟨[], false⟩, ⟨[LI o.kind, LI o.n, .v (.slice o.l.A o.l.n o.l.c)], true⟩]) (by kernel_rfl)
  have hAz := hA.castR (rs' := [⟨[], false⟩, ⟨[], false⟩, ⟨[], false⟩, ⟨[], false⟩, ⟨[LI o.kind, LI o.n, .v (.slice o.l.A o.l.n o.l.c)], true⟩]) (by kernel_rfl)
  have hWz := hW.castR (rs' := [⟨[], false⟩, ⟨[], false⟩, ⟨[], false⟩, ⟨[], false⟩, ⟨[LI o.kind, LI o.n, .v (.slice o.l.A o.l.n o.l.c)], true⟩]) (by kernel_rfl)
  have hCz := hC.castR (rs' := [⟨[], false⟩, ⟨[], false⟩, ⟨[], false⟩, ⟨[], false⟩, ⟨[LI o.kind, LI o.n, .v (.slice o.l.A o.l.n o.l.c)], true⟩]) (by kernel_rfl)
  have hagz := hag.ag
  refine sim_to (regK Tryz.f3 34) (tmplJ Tryz.f3.ntmps 0 [(2, .v (.slice Ao k c)), (7, .ptr 0 0), (9, .ptr 1 0), (11, .ptr 2 0), (12, LI (i : Int)), (13, .ptr 4 0), (20, .v (.slice Ac (clsU u o.n).length cc)), (21, .v (.slice Aa (Uf.classes u).length ca)), (22, .v (.slice Aw (Uf.classes u).length cw))]) [⟨[], false⟩, ⟨[], false⟩, ⟨[], false⟩, ⟨[], false⟩, ⟨[LI o.kind, LI o.n, .v (.slice o.l.A o.l.n o.l.c)], true⟩] (by kernel_rfl) (by kernel_rfl) (by kernel_rfl) (fun d4 => ?_)
  exact plays_cond hRz hSz hAz hWz rfl hla hlw hAs hWs hAp (fun y hy => ⟨fun h => hAb0 y hy (.inl h), fun h => hAb0 y hy (.inr (.inl h)), hAge y hy⟩) hAb hWb hCz hL hln e0 e1 e2 hi d4 (fun c' ρ' w' qU' qR' s' u' hk hm hl hag' hR' htk hS' h1 h2 => hfin c' ρ' w' qU' qR' s' u' hk hm hl ⟨hagz.tr hag'.ag, hag'.le⟩ hR' htk hS' h1 h2)
end Go.Proofs.YtedfbdeklepekaaGreat
