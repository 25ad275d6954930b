/-
  UfPlays: what is told is what the document says.
-/
import Derived.Test.YtedfbdeklepekaaGreatUfP1
namespace Go.Proofs.YtedfbdeklepekaaGreat
open Go Go.RowKit
theorem sim_ord_to {P : Program} {Q : Exit → Act → World → Prop} {T : List Nat} {w0 w : World} {ρ : Nm} {c : OCfg} {ρs : Nm} (c0 : Cfg) (sp : List Nat) (m : Nat) (d' : Bool) (tm : List (Option LV)) (rs : List Reg) (hid : c.id = drawId c0) (hops : c.ops = drawOps c0) (hu : c.u = gateOf (drawOps c0) (ordOf sp (drawOps c0))) (hsn : c.snap = c0.rs) (hr : c.r = (ordOf sp (drawOps c0)).drop m) (hd : c.d = d') (hk : c.k = drawRest c0) (hrs : c.rs = rs) (hm : mergeT tm c.tmps = c.tmps) (hl : tm.length = c.tmps.length) (hR : RelO T w0 c ρs ρ w)
    (next : ∀ dd, RelO T w0 ⟨drawId c0, drawOps c0, gateOf (drawOps c0) (ordOf sp (drawOps c0)), c0.rs, (ordOf sp (drawOps c0)).drop m, d', drawRest c0, fillJ tm dd 0, rs⟩ ρs ρ w → AtO P Q ⟨drawId c0, drawOps c0, gateOf (drawOps c0) (ordOf sp (drawOps c0)), c0.rs, (ordOf sp (drawOps c0)).drop m, d', drawRest c0, fillJ tm dd 0, rs⟩ ρs ρ w) : AtO P Q c ρs ρ w := by
  obtain ⟨id, ops, u, snap, r, dr, k, t, rs'⟩ := c
  simp only at hid hops hu hsn hr hd hk hrs hm hl
  subst hid hops hu hsn hr hd hk hrs
  have h1 := next (fun j => (evalL t (.tmp j)).den ρ) ⟨hR.rel, hR.agree, hR.und, hR.len, hR.pre⟩
  unfold AtO at h1 ⊢
  simp only at h1 ⊢
  rw [act_of_merge ρ hm hl]
  exact h1
theorem Rel.look {T : List Nat} {w0 w : World} {ρ : Nm} {rs : List Reg} {n : Nat} {cells : List LV} (hR : Rel T w0 ρ rs w) (hn : rs[n]? = some ⟨[], false⟩) (hcell : ∀ i v, cells[i]? = some v → w.cell? (ρ.at_ n i) = some (v.den ρ)) (hw : ¬ wrS ρ rs (ρ n).1) : Rel T w0 ρ (rs.set n ⟨cells, false⟩) w := by
  have hnl := (List.getElem?_eq_some_iff.1 hn).1
  have key : ∀ (m : Nat) (r : Reg), (rs.set n ⟨cells, false⟩)[m]? = some r → (m = n ∧ r = ⟨cells, false⟩) ∨ (m ≠ n ∧ rs[m]? = some r) := fun m r h => by
    by_cases e : n = m
    · subst e
      rw [List.getElem?_set_self hnl] at h
      injection h with h
      exact .inl ⟨rfl, h.symm⟩
    · rw [List.getElem?_set_ne e] at h
      exact .inr ⟨fun h => e h.symm, h⟩
  refine ⟨hR.keeps, fun m r h => ?_, fun m r h i v hv => ?_, fun m r h hwr => ?_, fun m k r r' h h' hmk hwr he => ?_⟩
  · rcases key m r h with ⟨rfl, _⟩ | ⟨_, h1⟩
    · exact hR.lt m _ hn
    · exact hR.lt m r h1
  · rcases key m r h with ⟨rfl, rfl⟩ | ⟨_, h1⟩
    · exact hcell i v hv
    · exact hR.cell m r h1 i v hv
  · rcases key m r h with ⟨rfl, rfl⟩ | ⟨_, h1⟩
    · cases hwr
    · exact hR.wr m r h1 hwr
  · rcases key m r h with ⟨rfl, rfl⟩ | ⟨_, h1⟩
    · cases hwr
    · rcases key k r' h' with ⟨rfl, rfl⟩ | ⟨_, h2⟩
      · exact (hw ⟨m, r, h1, hwr, he⟩).elim
      · exact hR.apart m k r r' h1 h2 hmk hwr he
theorem LvS.over {n0 : Nat} {qU : UfQ} {qR : RfP} {b : Nat} {s : KSt} {u v : List Nat} {ρ ρ' : Nm} {rs rs' : List Reg} {w : World} (h : LvS n0 qU qR b s u v ρ rs w) (hf : ∀ y, wrS ρ' rs' y → wrS ρ rs y) : LvS n0 qU qR b s u v ρ' rs' w := h.map (h.uf.over fun y hy hw => h.uf.far y hy (hf y hw)) (h.rf.over fun y hy hw => h.rf.far y hy (hf y hw)) (h.bk.over fun y hy hw => h.bk.far y hy (hf y hw))
theorem Sta.overW {S : Nat → Prop} {V : World → Prop} {ρ ρ' : Nm} {rs rs' : List Reg} {w : World} (h : Sta S V ρ rs w) (hf : ∀ y, wrS ρ' rs' y → wrS ρ rs y) : Sta S V ρ' rs' w := h.over fun y hy hw => h.far y hy (hf y hw)
theorem Own.overW {ρ ρ' : Nm} {rs rs' : List Reg} {w : World} {B : Nat} {e : TypeId} {sz n : Nat} {v : Value} {xs : List Value} (h : Own ρ rs w B e sz v n xs) (hf : ∀ y, wrS ρ' rs' y → wrS ρ rs y) : Own ρ' rs' w B e sz v n xs := ⟨h.own, fun g hg hw => h.far g hg (hf g hw)⟩
theorem wr_back {ρ : Nm} {c0 c1 c2 o : List LV} {y : Nat} (h : wrS ρ [⟨[], false⟩, ⟨c1, false⟩, ⟨[], false⟩, ⟨[], false⟩, ⟨o, true⟩] y) : wrS ρ [⟨c0, false⟩, ⟨c2, false⟩, ⟨[], false⟩, ⟨[], false⟩, ⟨o, true⟩] y := by
  obtain ⟨n, r, hn, hw, e⟩ := h
  match n, hn with
  | 0, hn => simp at hn; subst hn; cases hw
  | 1, hn => simp at hn; subst hn; cases hw
  | 2, hn => simp at hn; subst hn; cases hw
  | 3, hn => simp at hn; subst hn; cases hw
  | 4, hn => simp at hn; subst hn; exact ⟨4, _, rfl, rfl, e⟩
  | n + 5, hn => simp at hn
theorem clsU_len (u : List Nat) (i : Int) : (clsU u i).length ≤ u.length := by
  unfold clsU
  split
  · unfold Uf.cls
    exact Nat.le_trans (List.length_filter_le _ _) (by rw [List.length_range']; exact Nat.le_refl _)
  · exact Nat.zero_le _
attribute [local irreducible] run goO leaveK someK nextK nextT nextOT nextOD loopBody loopRest loopK fillJ tmplOf tmplJ mergeT At AtO drawOk ordOf gateOf callC callO topOp topO idxOf appOf storeOf clearOf sliceOf calleeOf calleeO topQ idxQ newRowOf resL stepOp seek
set_option maxRecDepth 100000 in
set_option maxHeartbeats 4000000 in
theorem plays_cond {Q : Exit → Act → World → Prop} {R : Ending → World → Prop} [hB : Body Tryz.prog Q Tryz.f3 R] {ρ : Nm} {w0 w : World} {qU : UfQ} {qR : RfP} {b : Nat} {s : KSt} {u : List Nat} {Ao : Option Addr} {k c i : Nat} {Aa Aw : Option Addr} {na ca cw : Nat} {rowsA rowsW : List BRow} {o : OpU} {Ac : Option Addr} {cc Bc : Nat} (hR : Rel [] w0 ρ [⟨[], false⟩, ⟨[], false⟩, ⟨[], false⟩, ⟨[], false⟩, ⟨[LI o.kind, LI o.n, .v (.slice o.l.A o.l.n o.l.c)], true⟩] w) (hS : LvS w0.heap.size qU qR b s u u ρ [⟨[], false⟩, ⟨[], false⟩, ⟨[], false⟩, ⟨[], false⟩, ⟨[LI o.kind, LI o.n, .v (.slice o.l.A o.l.n o.l.c)], true⟩] w) (hA : Sta (RL.mk (.slice Aa na ca) rowsA).has (RLV (RL.mk (.slice Aa na ca) rowsA)) ρ [⟨[], false⟩, ⟨[], false⟩, ⟨[], false⟩, ⟨[], false⟩, ⟨[LI o.kind, LI o.n, .v (.slice o.l.A o.l.n o.l.c)], true⟩] w) (hW : Sta (RL.mk (.slice Aw na cw) rowsW).has (RLV (RL.mk (.slice Aw na cw) rowsW)) ρ [⟨[], false⟩, ⟨[], false⟩, ⟨[], false⟩, ⟨[], false⟩, ⟨[LI o.kind, LI o.n, .v (.slice o.l.A o.l.n o.l.c)], true⟩] w) (hna : na = (Uf.classes u).length) (hla : rowsA.length = na) (hlw : rowsW.length = na) (hAs : rowsA.map (fun r => (r.n, r.xs)) = (Uf.classes u).map (fun l => (l.length, nats l))) (hWs : rowsW.map (fun r => (r.n, r.xs)) = (Uf.classes u).map (fun l => (l.length, nats l))) (hAp : rowsA.Pairwise fun a b => ∀ g, a.v.ownBlock = some g → b.v.ownBlock ≠ some g) (hAc : ∀ y, (RL.mk (.slice Aa na ca) rowsA).has y → ¬ qU.has y ∧ ¬ qR.has y ∧ w0.heap.size ≤ y) (hAb : ∀ y, (RL.mk (.slice Aa na ca) rowsA).has y → ¬ bkS b s y) (hWb : ∀ y, (RL.mk (.slice Aw na cw) rowsW).has y → ¬ bkS b s y) (hC : Own ρ [⟨[], false⟩, ⟨[], false⟩, ⟨[], false⟩, ⟨[], false⟩, ⟨[LI o.kind, LI o.n, .v (.slice o.l.A o.l.n o.l.c)], true⟩] w Bc 3 1 (.slice Ac (clsU u o.n).length cc) (clsU u o.n).length (nats (clsU u o.n))) (hL : Reads w0 w0.heap.size 1 o.l.A o.l.n (ints o.l.xs)) (hln : o.l.n ≤ 60) (e0 : ρ 0 = (qU.b, 0)) (e1 : ρ 1 = (qR.b, 0)) (e2 : ρ 2 = (b, 0)) (hi : i < 1000) (d : Nat → Value)
    (hfin : ∀ (c' : Cfg) (ρ' : Nm) (w' : World) (qU' : UfQ) (qR' : RfP) (s' : KSt) (u' : List Nat), c'.k = [] → mergeT (tmplJ Tryz.f3.ntmps 0 [(2, .v (.slice Ao k c)), (7, .ptr 0 0), (9, .ptr 1 0), (11, .ptr 2 0), (12, LI ((i : Int) + 1))]) c'.tmps = c'.tmps → (tmplJ Tryz.f3.ntmps 0 [(2, .v (.slice Ao k c)), (7, .ptr 0 0), (9, .ptr 1 0), (11, .ptr 2 0), (12, LI ((i : Int) + 1))]).length = c'.tmps.length → Ag 3 ρ ρ' c'.rs → Rel [] w0 ρ' c'.rs w' → c'.rs.take 3 = [⟨[], false⟩, ⟨[], false⟩, ⟨[], false⟩] → LvS w0.heap.size qU' qR' b s' u' u' ρ' c'.rs w' → qU'.b = qU.b → qR'.b = qR.b → At Tryz.prog Q c' ρ' w') :
    At Tryz.prog Q ⟨regK Tryz.f3 34, fillJ (tmplJ Tryz.f3.ntmps 0 [(2, .v (.slice Ao k c)), (7, .ptr 0 0), (9, .ptr 1 0), (11, .ptr 2 0), (12, LI (i : Int)), (13, .ptr 4 0), (20, .v (.slice Ac (clsU u o.n).length cc)), (21, .v (.slice Aa na ca)), (22, .v (.slice Aw na cw))]) d 0, [⟨[], false⟩, ⟨[], false⟩, ⟨[], false⟩, ⟨[], false⟩, ⟨[LI o.kind, LI o.n, .v (.slice o.l.A o.l.n o.l.c)], true⟩]⟩ ρ w := by
  have hcell : ∀ (j : Nat) (z : LV), [LV.v (.slice qR.A u.length qR.c), LV.v qR.vL][j]? = some z → w.cell? (ρ.at_ 1 j) = some (z.den ρ) := fun j z hz => by
    have h1 := hS.rf.is.blk.cell j
    simp only [Nm.at_, e1, Nat.zero_add]
    rw [h1]
    match j, hz with
    | 0, hz => simp at hz; subst hz; rfl
    | 1, hz => simp at hz; subst hz; rfl
    | j + 2, hz => simp at hz
  have hw1 : ¬ wrS ρ [⟨[], false⟩, ⟨[], false⟩, ⟨[], false⟩, ⟨[], false⟩, ⟨[LI o.kind, LI o.n, .v (.slice o.l.A o.l.n o.l.c)], true⟩] (ρ 1).1 := by rw [e1]; exact hS.far _ (.inr (.inl (.inl rfl)))
  have hRz : Rel [] w0 ρ [⟨[], false⟩, ⟨[.v (.slice qR.A u.length qR.c), .v qR.vL], false⟩, ⟨[], false⟩, ⟨[], false⟩, ⟨[LI o.kind, LI o.n, .v (.slice o.l.A o.l.n o.l.c)], true⟩] w := hR.look (n := 1) rfl hcell hw1
  have hS := hS.over (rs' := [⟨[], false⟩, ⟨[.v (.slice qR.A u.length qR.c), .v qR.vL], false⟩, ⟨[], false⟩, ⟨[], false⟩, ⟨[LI o.kind, LI o.n, .v (.slice o.l.A o.l.n o.l.c)], true⟩]) (ρ' := ρ) (fun y hy => wr_back hy)
  have hA := hA.overW (rs' := [⟨[], false⟩, ⟨[.v (.slice qR.A u.length qR.c), .v qR.vL], false⟩, ⟨[], false⟩, ⟨[], false⟩, ⟨[LI o.kind, LI o.n, .v (.slice o.l.A o.l.n o.l.c)], true⟩]) (ρ' := ρ) (fun y hy => wr_back hy)
  have hW := hW.overW (rs' := [⟨[], false⟩, ⟨[.v (.slice qR.A u.length qR.c), .v qR.vL], false⟩, ⟨[], false⟩, ⟨[], false⟩, ⟨[LI o.kind, LI o.n, .v (.slice o.l.A o.l.n o.l.c)], true⟩]) (ρ' := ρ) (fun y hy => wr_back hy)
  have hC := hC.overW (rs' := [⟨[], false⟩, ⟨[.v (.slice qR.A u.length qR.c), .v qR.vL], false⟩, ⟨[], false⟩, ⟨[], false⟩, ⟨[LI o.kind, LI o.n, .v (.slice o.l.A o.l.n o.l.c)], true⟩]) (ρ' := ρ) (fun y hy => wr_back hy)
  clear hw1 hcell hR
  refine sim_rs [⟨[], false⟩, ⟨[.v (.slice qR.A u.length qR.c), .v qR.vL], false⟩, ⟨[], false⟩, ⟨[], false⟩, ⟨[LI o.kind, LI o.n, .v (.slice o.l.A o.l.n o.l.c)], true⟩] ?_
  have hag := hRz.ag_ 3 (by kernel_rfl)
  rw [nats_ints] at hC
  obtain ⟨hd, hhd⟩ : ∃ z, headI u o.n = z := ⟨_, rfl⟩
  obtain ⟨sm, hsm⟩ : ∃ z, sameI u o.l.xs = z := ⟨_, rfl⟩
  have hcb : (clsU u o.n).length ≤ 1000 := Nat.le_trans (clsU_len u o.n) hS.big
  refine sim_draw [] (by kernel_rfl) (by kernel_rfl) (hRz.cast (by kernel_rfl)) (fun hR100 => ?_)
  have hS := hS.drew
  have hA := hA.drew
  have hW := hW.drew
  have hC := hC.drew
  refine sim_ordN 6 [] hR100 (by kernel_rfl) trivial (fun ρ101 w101 hm101 hR101 => ?_)
  have hag := hag.moved (hm101.castL (by kernel_rfl))
  have hS := hS.moved (hm101.castL (by kernel_rfl))
  have hA := hA.moved (hm101.castL (by kernel_rfl))
  have hW := hW.moved (hm101.castL (by kernel_rfl))
  have hC := hC.moved (hm101.castL (by kernel_rfl))
  refine sim_knowO hR101 148 ((↑na : Int) != (↑na : Int)) false (by kernel_rfl) (bne_self_eq_false _) (fun hR102 => ?_)
  refine sim_ordN 6 [] hR102 (by kernel_rfl) trivial (fun ρ103 w103 hm103 hR103 => ?_)
  have hag := hag.moved (hm103.castL (by kernel_rfl))
  have hS := hS.moved (hm103.castL (by kernel_rfl))
  have hA := hA.moved (hm103.castL (by kernel_rfl))
  have hW := hW.moved (hm103.castL (by kernel_rfl))
  have hC := hC.moved (hm103.castL (by kernel_rfl))
  refine sim_ord_call (T := []) (w0 := w0) 19 [.ptr 0 0, LI o.n] (by kernel_rfl) ?_
  have ez0_104 := (hag.at_ 0 (by omega)).trans e0
  simp only [denL, LV.den, Nm.at_, ez0_104, Nat.add_zero]
  refine Calls.mono (headU_eq (qU) (u) _ (hd) _ hS.uf.is hS.good hS.big (by assumption)) ?_
  rintro e104 w104 ⟨rfl, hb104⟩
  have hR104 := hR103.call hb104 (LI hd)
  have hS := hS.below hb104
  have hA := hA.below hb104
  have hW := hW.below hb104
  have hC := hC.below hb104
  refine BackO.of (LI hd) hR104 rfl ?_
  refine sim_ord_call (T := []) (w0 := w0) 20 [.ptr 1 0, LI o.n] (by kernel_rfl) ?_
  have ez1_105 := (hag.at_ 1 (by omega)).trans e1
  simp only [denL, LV.den, Nm.at_, ez1_105, Nat.add_zero]
  refine Calls.mono (head12_eq (qR) (u) _ (hd) _ hS.rf.is hS.big (by assumption)) ?_
  rintro e105 w105 ⟨rfl, hb105⟩
  have hR105 := hR104.call hb105 (LI hd)
  have hS := hS.below hb105
  have hA := hA.below hb105
  have hW := hW.below hb105
  have hC := hC.below hb105
  refine BackO.of (LI hd) hR105 rfl ?_
  refine sim_ordN 3 [] hR105 (by kernel_rfl) trivial (fun ρ106 w106 hm106 hR106 => ?_)
  have hag := hag.moved (hm106.castL (by kernel_rfl))
  have hS := hS.moved (hm106.castL (by kernel_rfl))
  have hA := hA.moved (hm106.castL (by kernel_rfl))
  have hW := hW.moved (hm106.castL (by kernel_rfl))
  have hC := hC.moved (hm106.castL (by kernel_rfl))
  refine sim_knowO hR106 159 (hd != hd) false (by kernel_rfl) (bne_self_eq_false _) (fun hR107 => ?_)
  refine sim_ordN 6 [] hR107 (by kernel_rfl) trivial (fun ρ108 w108 hm108 hR108 => ?_)
  have hag := hag.moved (hm108.castL (by kernel_rfl))
  have hS := hS.moved (hm108.castL (by kernel_rfl))
  have hA := hA.moved (hm108.castL (by kernel_rfl))
  have hW := hW.moved (hm108.castL (by kernel_rfl))
  have hC := hC.moved (hm108.castL (by kernel_rfl))
  
  refine sim_ord_to ⟨regK Tryz.f3 34, fillJ (tmplJ Tryz.f3.ntmps 0 [(2, .v (.slice Ao k c)), (7, .ptr 0 0), (9, .ptr 1 0), (11, .ptr 2 0), (12, LI (i : Int)), (13, .ptr 4 0), (20, .v (.slice Ac (clsU u o.n).length cc)), (21, .v (.slice Aa na ca)), (22, .v (.slice Aw na cw))]) d 0, [⟨[], false⟩, ⟨[.v (.slice qR.A u.length qR.c), .v qR.vL], false⟩, ⟨[], false⟩, ⟨[], false⟩, ⟨[LI o.kind, LI o.n, .v (.slice o.l.A o.l.n o.l.c)], true⟩]⟩ [] 23 false (tmplJ Tryz.f3.ntmps 0 [(2, .v (.slice Ao k c)), (7, .ptr 0 0), (9, .ptr 1 0), (11, .ptr 2 0), (12, LI (i : Int)), (13, .ptr 4 0), (20, .v (.slice Ac (clsU u o.n).length cc)), (21, .v (.slice Aa na ca)), (22, .v (.slice Aw na cw)), (159, LB false), (160, .ptr 0 0), (162, .v (.slice o.l.A o.l.n o.l.c)), (164, .ptr 1 0), (166, .v (.slice o.l.A o.l.n o.l.c))]) [⟨[], false⟩, ⟨[.v (.slice qR.A u.length qR.c), .v qR.vL], false⟩, ⟨[], false⟩, ⟨[], false⟩, ⟨[LI o.kind, LI o.n, .v (.slice o.l.A o.l.n o.l.c)], true⟩] (by kernel_rfl) (by kernel_rfl) (by kernel_rfl) (by kernel_rfl) (by kernel_rfl) (by kernel_rfl) (by kernel_rfl) (by kernel_rfl) (by kernel_rfl) (by kernel_rfl) (by assumption : RelO _ _ _ _ _ _) (fun dd90 hR90 => ?_)
  refine sim_ord_call (T := []) (w0 := w0) 21 [.ptr 0 0, .v (Value.slice o.l.A o.l.n o.l.c)] (by kernel_rfl) ?_
  have ez0_200 := (hag.at_ 0 (by omega)).trans e0
  simp only [denL, LV.den, Nm.at_, ez0_200, Nat.add_zero]
  refine Calls.mono (sameQ_eq (qU) (u) _ _ _ _ (o.l.xs) (sm) _ hS.uf.is hS.good hS.big (hL.below (hR90.rel).toBelow) (by omega) (by assumption)) ?_
  rintro e200 w200 ⟨rfl, hb200⟩
  have hR200 := hR90.call hb200 (LB sm)
  have hS := hS.below hb200
  have hA := hA.below hb200
  have hW := hW.below hb200
  have hC := hC.below hb200
  refine BackO.of (LB sm) hR200 rfl ?_
  refine sim_ord_call (T := []) (w0 := w0) 22 [.ptr 1 0, .v (Value.slice o.l.A o.l.n o.l.c)] (by kernel_rfl) ?_
  have ez1_201 := (hag.at_ 1 (by omega)).trans e1
  simp only [denL, LV.den, Nm.at_, ez1_201, Nat.add_zero]
  refine Calls.mono (same12_any (qR) (u) _ _ _ _ (o.l.xs) (sm) _ hS.rf.is hS.big (hL.below (hR200.rel).toBelow) (hR200.rel).keeps.size (by omega) (by assumption)) ?_
  rintro e201 w201 ⟨rfl, hb201⟩
  have hR201 := hR200.call hb201 (LB sm)
  have hS := hS.below hb201
  have hA := hA.below hb201
  have hW := hW.below hb201
  have hC := hC.below hb201
  refine BackO.of (LB sm) hR201 rfl ?_
  refine sim_ordN 3 [] hR201 (by kernel_rfl) trivial (fun ρ202 w202 hm202 hR202 => ?_)
  have hag := hag.moved (hm202.castL (by kernel_rfl))
  have hS := hS.moved (hm202.castL (by kernel_rfl))
  have hA := hA.moved (hm202.castL (by kernel_rfl))
  have hW := hW.moved (hm202.castL (by kernel_rfl))
  have hC := hC.moved (hm202.castL (by kernel_rfl))
  refine sim_knowO hR202 170 (!sm == sm) false (by kernel_rfl) (bne_self_eq_false _) (fun hR203 => ?_)
  refine sim_ordN 6 [] hR203 (by kernel_rfl) trivial (fun ρ204 w204 hm204 hR204 => ?_)
  have hag := hag.moved (hm204.castL (by kernel_rfl))
  have hS := hS.moved (hm204.castL (by kernel_rfl))
  have hA := hA.moved (hm204.castL (by kernel_rfl))
  have hW := hW.moved (hm204.castL (by kernel_rfl))
  have hC := hC.moved (hm204.castL (by kernel_rfl))
  
  refine sim_ord_to ⟨regK Tryz.f3 34, fillJ (tmplJ Tryz.f3.ntmps 0 [(2, .v (.slice Ao k c)), (7, .ptr 0 0), (9, .ptr 1 0), (11, .ptr 2 0), (12, LI (i : Int)), (13, .ptr 4 0), (20, .v (.slice Ac (clsU u o.n).length cc)), (21, .v (.slice Aa na ca)), (22, .v (.slice Aw na cw))]) d 0, [⟨[], false⟩, ⟨[.v (.slice qR.A u.length qR.c), .v qR.vL], false⟩, ⟨[], false⟩, ⟨[], false⟩, ⟨[LI o.kind, LI o.n, .v (.slice o.l.A o.l.n o.l.c)], true⟩]⟩ [] 34 false (tmplJ Tryz.f3.ntmps 0 [(2, .v (.slice Ao k c)), (7, .ptr 0 0), (9, .ptr 1 0), (11, .ptr 2 0), (12, LI (i : Int)), (13, .ptr 4 0), (20, .v (.slice Ac (clsU u o.n).length cc)), (21, .v (.slice Aa na ca)), (22, .v (.slice Aw na cw)), (170, LB false), (171, .ptr 0 0), (177, LI (u.length : Int))]) [⟨[], false⟩, ⟨[.v (.slice qR.A u.length qR.c), .v qR.vL], false⟩, ⟨[], false⟩, ⟨[], false⟩, ⟨[LI o.kind, LI o.n, .v (.slice o.l.A o.l.n o.l.c)], true⟩] (by kernel_rfl) (by kernel_rfl) (by kernel_rfl) (by kernel_rfl) (by kernel_rfl) (by kernel_rfl) (by kernel_rfl) (by kernel_rfl) (by kernel_rfl) (by kernel_rfl) (by assumption : RelO _ _ _ _ _ _) (fun dd91 hR91 => ?_)
  refine sim_ord_call (T := []) (w0 := w0) 23 [.ptr 0 0] (by kernel_rfl) ?_
  have ez0_300 := (hag.at_ 0 (by omega)).trans e0
  simp only [denL, LV.den, Nm.at_, ez0_300, Nat.add_zero]
  refine Calls.mono (lenQ_any (qU) (u) _ hS.uf.is) ?_
  rintro e300 w300 ⟨rfl, hb300⟩
  have hR300 := hR91.call hb300 (LI ((↑u.length : Int)))
  have hS := hS.below hb300
  have hA := hA.below hb300
  have hW := hW.below hb300
  have hC := hC.below hb300
  refine BackO.of (LI ((↑u.length : Int))) hR300 rfl ?_
  refine sim_ordN 3 [] hR300 (by kernel_rfl) trivial (fun ρ301 w301 hm301 hR301 => ?_)
  have hag := hag.moved (hm301.castL (by kernel_rfl))
  have hS := hS.moved (hm301.castL (by kernel_rfl))
  have hA := hA.moved (hm301.castL (by kernel_rfl))
  have hW := hW.moved (hm301.castL (by kernel_rfl))
  have hC := hC.moved (hm301.castL (by kernel_rfl))
  refine sim_knowO hR301 180 ((↑u.length : Int) != (↑u.length : Int)) false (by kernel_rfl) (bne_self_eq_false _) (fun hR302 => ?_)
  refine sim_ordN 4 [] hR302 (by kernel_rfl) trivial (fun ρ303 w303 hm303 hR303 => ?_)
  have hag := hag.moved (hm303.castL (by kernel_rfl))
  have hS := hS.moved (hm303.castL (by kernel_rfl))
  have hA := hA.moved (hm303.castL (by kernel_rfl))
  have hW := hW.moved (hm303.castL (by kernel_rfl))
  have hC := hC.moved (hm303.castL (by kernel_rfl))
  
  refine sim_ord_to ⟨regK Tryz.f3 34, fillJ (tmplJ Tryz.f3.ntmps 0 [(2, .v (.slice Ao k c)), (7, .ptr 0 0), (9, .ptr 1 0), (11, .ptr 2 0), (12, LI (i : Int)), (13, .ptr 4 0), (20, .v (.slice Ac (clsU u o.n).length cc)), (21, .v (.slice Aa na ca)), (22, .v (.slice Aw na cw))]) d 0, [⟨[], false⟩, ⟨[.v (.slice qR.A u.length qR.c), .v qR.vL], false⟩, ⟨[], false⟩, ⟨[], false⟩, ⟨[LI o.kind, LI o.n, .v (.slice o.l.A o.l.n o.l.c)], true⟩]⟩ [] 42 false (tmplJ Tryz.f3.ntmps 0 [(2, .v (.slice Ao k c)), (7, .ptr 0 0), (9, .ptr 1 0), (11, .ptr 2 0), (12, LI (i : Int)), (13, .ptr 4 0), (20, .v (.slice Ac (clsU u o.n).length cc)), (21, .v (.slice Aa na ca)), (22, .v (.slice Aw na cw)), (180, LB false), (181, .v (.slice Ac (clsU u o.n).length cc)), (182, .ptr 1 0), (184, LI o.n)]) [⟨[], false⟩, ⟨[.v (.slice qR.A u.length qR.c), .v qR.vL], false⟩, ⟨[], false⟩, ⟨[], false⟩, ⟨[LI o.kind, LI o.n, .v (.slice o.l.A o.l.n o.l.c)], true⟩] (by kernel_rfl) (by kernel_rfl) (by kernel_rfl) (by kernel_rfl) (by kernel_rfl) (by kernel_rfl) (by kernel_rfl) (by kernel_rfl) (by kernel_rfl) (by kernel_rfl) (by assumption : RelO _ _ _ _ _ _) (fun dd92 hR92 => ?_)
  refine sim_ord_call (T := []) (w0 := w0) 25 [.ptr 1 0, LI o.n] (by kernel_rfl) ?_
  have ez1_400 := (hag.at_ 1 (by omega)).trans e1
  simp only [denL, LV.den, Nm.at_, ez1_400, Nat.add_zero]
  refine Calls.mono (class12_any (qR) (u) _ _ hS.rf.is hS.big) ?_
  rintro e400 w400 ⟨Ad, cd, rfl, hD, hb400⟩
  rw [nats_ints] at hD
  have hD := Own.start hR92.rel hD
  have hR400 := hR92.call hb400 (.v (Value.slice Ad (clsU u o.n).length cd))
  have hS := hS.below hb400
  have hA := hA.below hb400
  have hW := hW.below hb400
  have hC := hC.below hb400
  refine BackO.of (.v (Value.slice Ad (clsU u o.n).length cd)) hR400 rfl ?_
  refine sim_ord_call (T := []) (w0 := w0) 24 [.v (Value.slice Ac (clsU u o.n).length cc), .v (Value.slice Ad (clsU u o.n).length cd)] (by kernel_rfl) ?_
  refine Calls.mono (sameI_eq _ _ _ _ _ _ _ _ _ hC.reads hD.reads (by omega)) ?_
  rintro e401 w401 ⟨rfl, hb401⟩
  have hR401 := hR400.call hb401 (LB true)
  have hD := hD.below hb401
  have hS := hS.below hb401
  have hA := hA.below hb401
  have hW := hW.below hb401
  have hC := hC.below hb401
  refine BackO.of (LB true) hR401 rfl ?_
  refine sim_ordN 2 [] hR401 (by kernel_rfl) trivial (fun ρ402 w402 hm402 hR402 => ?_)
  have hag := hag.moved (hm402.castL (by kernel_rfl))
  have hD := hD.moved (hm402.castL (by kernel_rfl))
  have hS := hS.moved (hm402.castL (by kernel_rfl))
  have hA := hA.moved (hm402.castL (by kernel_rfl))
  have hW := hW.moved (hm402.castL (by kernel_rfl))
  have hC := hC.moved (hm402.castL (by kernel_rfl))
  refine sim_ord_endR hR402 (by kernel_rfl) (fun hR403 => ?_)
  refine sim_run 4 [] (hR403.cast (by kernel_rfl)) (by kernel_rfl) trivial (fun ρ404 w404 hm404 hR404 => ?_)
  have hag := hag.moved (hm404.castL (by kernel_rfl))
  have hD := hD.moved (hm404.castL (by kernel_rfl))
  have hS := hS.moved (hm404.castL (by kernel_rfl))
  have hA := hA.moved (hm404.castL (by kernel_rfl))
  have hW := hW.moved (hm404.castL (by kernel_rfl))
  have hC := hC.moved (hm404.castL (by kernel_rfl))
  
  have hz3 := ((by assumption : Rel _ _ _ _ _)).ag_ 3 (by kernel_rfl)
  have hRy := ((by assumption : Rel _ _ _ _ _)).forget (fun n => n == 1)
  have e0 := (hag.at_ 0 (by omega)).trans e0
  have e1 := (hag.at_ 1 (by omega)).trans e1
  have e2 := (hag.at_ 2 (by omega)).trans e2
  have hRx := (hRy.cast (rs' := [⟨[], false⟩, ⟨[], false⟩, ⟨[], false⟩, ⟨[], false⟩, ⟨[LI o.kind, LI o.n, .v (.slice o.l.A o.l.n o.l.c)], true⟩]) (by kernel_rfl)).cut (rs := [⟨[], false⟩, ⟨[], false⟩, ⟨[], false⟩]) (by kernel_rfl) (Agree.refl _ _) (by kernel_rfl)
  have hno : ∀ (ρ9 : Nm) (y : Nat), wrS ρ9 [⟨[], false⟩, ⟨[], false⟩, ⟨[], false⟩] y → False := fun ρ9 y hy => wrS_allRo (rs := [⟨[], false⟩, ⟨[], false⟩, ⟨[], false⟩]) rfl hy
  have hS := hS.over (ρ' := ρ404) (rs' := [⟨[], false⟩, ⟨[], false⟩, ⟨[], false⟩]) (fun y hy => (hno _ y hy).elim)
  have hA := hA.overW (ρ' := ρ404) (rs' := [⟨[], false⟩, ⟨[], false⟩, ⟨[], false⟩]) (fun y hy => (hno _ y hy).elim)
  have hW := hW.overW (ρ' := ρ404) (rs' := [⟨[], false⟩, ⟨[], false⟩, ⟨[], false⟩]) (fun y hy => (hno _ y hy).elim)
  have hagz := hag.ag
  refine sim_to (regK Tryz.f3 36) (tmplJ Tryz.f3.ntmps 0 [(2, .v (.slice Ao k c)), (7, .ptr 0 0), (9, .ptr 1 0), (11, .ptr 2 0), (12, LI (i : Int)), (21, .v (.slice Aa na ca)), (22, .v (.slice Aw na cw))]) [⟨[], false⟩, ⟨[], false⟩, ⟨[], false⟩] (by kernel_rfl) (by kernel_rfl) (by kernel_rfl) (fun d4 => ?_)
  exact plays_all hRx hS hA hW hna hla hlw hAs hWs hAp hAc hAb hWb e0 e1 e2 hi d4 (fun c' ρ' w' qU' qR' s' u' hk hm hl hag' hR' htk hS' h1 h2 => hfin c' ρ' w' qU' qR' s' u' hk hm hl ⟨hagz.tr hag'.ag, hag'.le⟩ hR' htk hS' h1 h2)
end Go.Proofs.YtedfbdeklepekaaGreat
