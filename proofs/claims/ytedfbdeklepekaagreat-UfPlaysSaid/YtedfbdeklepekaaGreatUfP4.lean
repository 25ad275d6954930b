/-
  UfPlays: what is done, and what is told then.
-/
import Derived.Test.YtedfbdeklepekaaGreatUfP3
namespace Go.Proofs.YtedfbdeklepekaaGreat
open Go Go.RowKit
theorem rf_has {q : RfP} {A : Option Addr} {c : Nat} {w : World} (h : ∀ a, A = some a → q.A = some a ∨ w.heap.size ≤ a.block) : ∀ y, (RfP.mk q.b A c q.vL).has y → q.has y ∨ w.heap.size ≤ y := by
  intro y hy
  rcases hy with rfl | ⟨a, ha, rfl⟩
  · exact .inl (.inl rfl)
  · exact (h a ha).imp (fun e => .inr ⟨a, e, rfl⟩) id
attribute [local irreducible] run goO leaveK someK nextK nextT nextOT nextOD loopBody loopRest loopK fillJ tmplOf tmplJ mergeT At AtO drawOk ordOf gateOf callC callO topOp topO idxOf appOf storeOf clearOf sliceOf calleeOf calleeO topQ idxQ newRowOf resL stepOp seek
set_option maxRecDepth 100000 in
set_option maxHeartbeats 4000000 in
theorem plays_grow {Q : Exit → Act → World → Prop} {R : Ending → World → Prop} [hB : Body Tryz.prog Q Tryz.f3 R] {ρ : Nm} {w0 w : World} {qU : UfQ} {qR : RfP} {b : Nat} {s : KSt} {u : List Nat} {Ao : Option Addr} {k c i : Nat} {o : OpU} {kv : Int} (hR : Rel [] w0 ρ [⟨[], false⟩, ⟨[], false⟩, ⟨[], false⟩, ⟨[], false⟩, ⟨[LI o.kind, LI o.n, .v (.slice o.l.A o.l.n o.l.c)], true⟩] w) (hS : LvS w0.heap.size qU qR b s u u ρ [⟨[], false⟩, ⟨[], false⟩, ⟨[], false⟩, ⟨[], false⟩, ⟨[LI o.kind, LI o.n, .v (.slice o.l.A o.l.n o.l.c)], true⟩] w) (hL : Reads w0 w0.heap.size 1 o.l.A o.l.n (ints o.l.xs)) (hln : o.l.n ≤ 60) (hon : Is64 o.n) (hkv : kv ≤ 80 ∨ 1000 < kv) (hkb : Is64 kv) (e0 : ρ 0 = (qU.b, 0)) (e1 : ρ 1 = (qR.b, 0)) (e2 : ρ 2 = (b, 0)) (hi : i < 1000) (d : Nat → Value)
    (hfin : ∀ (c' : Cfg) (ρ' : Nm) (w' : World) (qU' : UfQ) (qR' : RfP) (s' : KSt) (u' : List Nat), c'.k = [] → mergeT (tmplJ Tryz.f3.ntmps 0 [(2, .v (.slice Ao k c)), (7, .ptr 0 0), (9, .ptr 1 0), (11, .ptr 2 0), (12, LI ((i : Int) + 1))]) c'.tmps = c'.tmps → (tmplJ Tryz.f3.ntmps 0 [(2, .v (.slice Ao k c)), (7, .ptr 0 0), (9, .ptr 1 0), (11, .ptr 2 0), (12, LI ((i : Int) + 1))]).length = c'.tmps.length → Ag 3 ρ ρ' c'.rs → Rel [] w0 ρ' c'.rs w' → c'.rs.take 3 = [⟨[], false⟩, ⟨[], false⟩, ⟨[], false⟩] → LvS w0.heap.size qU' qR' b s' u' u' ρ' c'.rs w' → qU'.b = qU.b → qR'.b = qR.b → At Tryz.prog Q c' ρ' w') :
    At Tryz.prog Q ⟨regK Tryz.f3 29, fillJ (tmplJ Tryz.f3.ntmps 0 [(2, .v (.slice Ao k c)), (7, .ptr 0 0), (9, .ptr 1 0), (11, .ptr 2 0), (12, LI (i : Int)), (13, .ptr 4 0), (19, LI kv)]) d 0, [⟨[], false⟩, ⟨[], false⟩, ⟨[], false⟩, ⟨[], false⟩, ⟨[LI o.kind, LI o.n, .v (.slice o.l.A o.l.n o.l.c)], true⟩]⟩ ρ w := by
  have hag := hR.ag_ 3 (by kernel_rfl)
  have hbg := hS.big
  by_cases hout : kv < u.length ∨ 1000 < kv
  · refine sim_run 2 [] (hR.cast (by kernel_rfl)) (by kernel_rfl) trivial (fun ρ100 w100 hm100 hR100 => ?_)
    have hS := hS.moved (hm100.castL (by kernel_rfl))
    have hag := hag.moved (hm100.castL (by kernel_rfl))
    refine sim_call 13 [.ptr 0 0, LI kv] (by kernel_rfl) ?_
    have ez0_101 := (hag.at_ 0 (by omega)).trans e0
    simp only [denL, LV.den, Nm.at_, ez0_101, Nat.add_zero]
    refine Calls.mono (growQ_out (qU) (u) (kv) _ hS.uf.is (by assumption)) ?_
    rintro e101 w101 ⟨rfl, hb101⟩
    have hR101 := hR100.below hb101
    have hS := hS.below hb101
    refine Back.of (LI 1) hR101 rfl ?_
    refine sim_run 2 [] (hR101.cast (by kernel_rfl)) (by kernel_rfl) trivial (fun ρ102 w102 hm102 hR102 => ?_)
    have hag := hag.moved (hm102.castL (by kernel_rfl))
    have hS := hS.moved (hm102.castL (by kernel_rfl))
    refine sim_call 14 [.ptr 1 0, LI kv] (by kernel_rfl) ?_
    have ez1_103 := (hag.at_ 1 (by omega)).trans e1
    simp only [denL, LV.den, Nm.at_, ez1_103, Nat.add_zero]
    refine Calls.mono (grow12_out (qR) (u) (kv) _ hS.rf.is (by assumption)) ?_
    rintro e103 w103 ⟨rfl, hb103⟩
    have hR103 := hR102.below hb103
    have hS := hS.below hb103
    refine Back.of (LI 1) hR103 rfl ?_
    refine sim_run 7 [] (hR103.cast (by kernel_rfl)) (by kernel_rfl) trivial (fun ρ104 w104 hm104 hR104 => ?_)
    have hag := hag.moved (hm104.castL (by kernel_rfl))
    have hS := hS.moved (hm104.castL (by kernel_rfl))
    
    have e0 := (hag.at_ 0 (by omega)).trans e0
    have e1 := (hag.at_ 1 (by omega)).trans e1
    have e2 := (hag.at_ 2 (by omega)).trans e2
    have hRz := ((by assumption : Rel _ _ _ _ _)).cast (rs' := [⟨[], false⟩, ⟨[], false⟩, ⟨[], false⟩, ⟨[], false⟩, ⟨[LI o.kind, LI o.n, .v (.slice o.l.A o.l.n o.l.c)], true⟩]) (by kernel_rfl)
    have hSz := hS.castR (rs' := [⟨[], false⟩, ⟨[], false⟩, ⟨[], false⟩, ⟨[], false⟩, ⟨[LI o.kind, LI o.n, .v (.slice o.l.A o.l.n o.l.c)], true⟩]) (by kernel_rfl)
    have hagz := hag.ag
    refine sim_to (regK Tryz.f3 31) (tmplJ Tryz.f3.ntmps 0 [(2, .v (.slice Ao k c)), (7, .ptr 0 0), (9, .ptr 1 0), (11, .ptr 2 0), (12, LI (i : Int)), (13, .ptr 4 0)]) [⟨[], false⟩, ⟨[], false⟩, ⟨[], false⟩, ⟨[], false⟩, ⟨[LI o.kind, LI o.n, .v (.slice o.l.A o.l.n o.l.c)], true⟩] (by kernel_rfl) (by kernel_rfl) (by kernel_rfl) (fun d4 => ?_)
    exact plays_mid hRz hSz hL hln hon e0 e1 e2 hi d4 (fun c' ρ' w' qU' qR' s' u' hk hm hl hag' hR' htk hS' h1 h2 => hfin c' ρ' w' qU' qR' s' u' hk hm hl ⟨hagz.tr hag'.ag, hag'.le⟩ hR' htk hS' (h1.trans rfl) (h2.trans rfl))
  · obtain ⟨m, rfl⟩ : ∃ m : Nat, kv = m := ⟨kv.toNat, by omega⟩
    have h1 : u.length ≤ m := by omega
    have h2 : m ≤ 1000 := by omega
    have hgl : (growF u (m - u.length)).length ≤ 1000 := by rw [growF_length]; omega
    have hgg := growF_good hS.good (m - u.length)
    refine sim_run 2 [] (hR.cast (by kernel_rfl)) (by kernel_rfl) trivial (fun ρ200 w200 hm200 hR200 => ?_)
    have hS := hS.moved (hm200.castL (by kernel_rfl))
    have hag := hag.moved (hm200.castL (by kernel_rfl))
    refine sim_call 13 [.ptr 0 0, LI ((↑m : Int))] (by kernel_rfl) ?_
    have ez0_201 := (hag.at_ 0 (by omega)).trans e0
    simp only [denL, LV.den, Nm.at_, ez0_201, Nat.add_zero]
    refine Calls.mono (growQ_in (qU) (u) (m) _ hS.uf.is (by assumption) (by assumption)) ?_
    rintro e201 w201 ⟨rfl, qU2, hb2, hV2, hk2, hq2⟩
    have hR201 := (hR200).keptW hk2 [] (by kernel_rfl) (by simp) (fun y hy => hS.far y (.inl hy)) (fun y hy => hS.ge y (.inl hy))
    have hS2 := hS.setU hR200 hV2 hk2 hq2 hgg hgl
    have hS := hS2
    refine Back.of (LI 0) hR201 rfl ?_
    refine sim_run 2 [] (hR201.cast (by kernel_rfl)) (by kernel_rfl) trivial (fun ρ202 w202 hm202 hR202 => ?_)
    have hag := hag.moved (hm202.castL (by kernel_rfl))
    have hS2 := hS2.moved (hm202.castL (by kernel_rfl))
    have hS := hS.moved (hm202.castL (by kernel_rfl))
    refine sim_call 14 [.ptr 1 0, LI ((↑m : Int))] (by kernel_rfl) ?_
    have ez1_203 := (hag.at_ 1 (by omega)).trans e1
    simp only [denL, LV.den, Nm.at_, ez1_203, Nat.add_zero]
    refine Calls.mono (grow12_in (qR) (u) (m) _ hS.rf.is hS.goodv (by assumption) (by assumption)) ?_
    rintro e203 w203 ⟨rfl, A3, c3, hV3, hk3, hq3⟩
    have hR203 := (hR202).keptW hk3 [] (by kernel_rfl) (by simp) (fun y hy => hS.far y (.inr (.inl (.inl hy)))) (fun y hy => hS.ge y (.inr (.inl (.inl hy))))
    have hS3 := hS.setR hR202 hV3 hk3 (rf_has hq3) hgg hgl
    have hS := hS3
    refine Back.of (LI 0) hR203 rfl ?_
    refine sim_run 7 [] (hR203.cast (by kernel_rfl)) (by kernel_rfl) trivial (fun ρ204 w204 hm204 hR204 => ?_)
    have hag := hag.moved (hm204.castL (by kernel_rfl))
    have hS3 := hS3.moved (hm204.castL (by kernel_rfl))
    have hS := hS.moved (hm204.castL (by kernel_rfl))
    
    have e0 := (hag.at_ 0 (by omega)).trans e0
    have e1 := (hag.at_ 1 (by omega)).trans e1
    have e2 := (hag.at_ 2 (by omega)).trans e2
    have hRz := ((by assumption : Rel _ _ _ _ _)).cast (rs' := [⟨[], false⟩, ⟨[], false⟩, ⟨[], false⟩, ⟨[], false⟩, ⟨[LI o.kind, LI o.n, .v (.slice o.l.A o.l.n o.l.c)], true⟩]) (by kernel_rfl)
    have hSz := hS.castR (rs' := [⟨[], false⟩, ⟨[], false⟩, ⟨[], false⟩, ⟨[], false⟩, ⟨[LI o.kind, LI o.n, .v (.slice o.l.A o.l.n o.l.c)], true⟩]) (by kernel_rfl)
    have hagz := hag.ag
    refine sim_to (regK Tryz.f3 31) (tmplJ Tryz.f3.ntmps 0 [(2, .v (.slice Ao k c)), (7, .ptr 0 0), (9, .ptr 1 0), (11, .ptr 2 0), (12, LI (i : Int)), (13, .ptr 4 0)]) [⟨[], false⟩, ⟨[], false⟩, ⟨[], false⟩, ⟨[], false⟩, ⟨[LI o.kind, LI o.n, .v (.slice o.l.A o.l.n o.l.c)], true⟩] (by kernel_rfl) (by kernel_rfl) (by kernel_rfl) (fun d4 => ?_)
    exact plays_mid hRz hSz hL hln hon (e0.trans (by rw [hb2])) e1 e2 hi d4 (fun c' ρ' w' qU' qR' s' u' hk hm hl hag' hR' htk hS' h1 h2 => hfin c' ρ' w' qU' qR' s' u' hk hm hl ⟨hagz.tr hag'.ag, hag'.le⟩ hR' htk hS' (h1.trans hb2) (h2.trans rfl))
set_option maxRecDepth 100000 in
set_option maxHeartbeats 4000000 in
theorem plays_join {Q : Exit → Act → World → Prop} {R : Ending → World → Prop} [hB : Body Tryz.prog Q Tryz.f3 R] {ρ : Nm} {w0 w : World} {qU : UfQ} {qR : RfP} {b : Nat} {s : KSt} {u : List Nat} {Ao : Option Addr} {k c i : Nat} {o : OpU} (hR : Rel [] w0 ρ [⟨[], false⟩, ⟨[], false⟩, ⟨[], false⟩, ⟨[], false⟩, ⟨[LI o.kind, LI o.n, .v (.slice o.l.A o.l.n o.l.c)], true⟩] w) (hS : LvS w0.heap.size qU qR b s u u ρ [⟨[], false⟩, ⟨[], false⟩, ⟨[], false⟩, ⟨[], false⟩, ⟨[LI o.kind, LI o.n, .v (.slice o.l.A o.l.n o.l.c)], true⟩] w) (hL : Reads w0 w0.heap.size 1 o.l.A o.l.n (ints o.l.xs)) (hln : o.l.n ≤ 60) (hon : Is64 o.n) (e0 : ρ 0 = (qU.b, 0)) (e1 : ρ 1 = (qR.b, 0)) (e2 : ρ 2 = (b, 0)) (hi : i < 1000) (d : Nat → Value)
    (hfin : ∀ (c' : Cfg) (ρ' : Nm) (w' : World) (qU' : UfQ) (qR' : RfP) (s' : KSt) (u' : List Nat), c'.k = [] → mergeT (tmplJ Tryz.f3.ntmps 0 [(2, .v (.slice Ao k c)), (7, .ptr 0 0), (9, .ptr 1 0), (11, .ptr 2 0), (12, LI ((i : Int) + 1))]) c'.tmps = c'.tmps → (tmplJ Tryz.f3.ntmps 0 [(2, .v (.slice Ao k c)), (7, .ptr 0 0), (9, .ptr 1 0), (11, .ptr 2 0), (12, LI ((i : Int) + 1))]).length = c'.tmps.length → Ag 3 ρ ρ' c'.rs → Rel [] w0 ρ' c'.rs w' → c'.rs.take 3 = [⟨[], false⟩, ⟨[], false⟩, ⟨[], false⟩] → LvS w0.heap.size qU' qR' b s' u' u' ρ' c'.rs w' → qU'.b = qU.b → qR'.b = qR.b → At Tryz.prog Q c' ρ' w') :
    At Tryz.prog Q ⟨regK Tryz.f3 20, fillJ (tmplJ Tryz.f3.ntmps 0 [(2, .v (.slice Ao k c)), (7, .ptr 0 0), (9, .ptr 1 0), (11, .ptr 2 0), (12, LI (i : Int)), (13, .ptr 4 0)]) d 0, [⟨[], false⟩, ⟨[], false⟩, ⟨[], false⟩, ⟨[], false⟩, ⟨[LI o.kind, LI o.n, .v (.slice o.l.A o.l.n o.l.c)], true⟩]⟩ ρ w := by
  have hag := hR.ag_ 3 (by kernel_rfl)
  obtain ⟨kk, ee, u2, hj⟩ : ∃ kk ee u2, joinK u o.l.xs = (kk, ee, u2) := ⟨_, _, _, rfl⟩
  have hg2 : Uf.Good u2 := by have := joinK_good o.l.xs hS.good; rw [hj] at this; exact this
  have hb2 : u2.length ≤ 1000 := by have := joinK_length u o.l.xs; rw [hj] at this; have h2 := hS.big; dsimp only at this; omega
  have hLd : ∀ ad, o.l.A = some ad → 0 < o.l.n → ad.block ≠ qR.b := fun ad ha hn => by
    obtain ⟨g, og, e, hg, _⟩ := hL.spot hn (by omega)
    rw [e] at ha
    injection ha with ha
    have h1 := hS.ge qR.b (.inr (.inl (.inl rfl)))
    intro h2
    have h3 : g = qR.b := by rw [← h2, ← ha]
    omega
  refine sim_run 2 [] (hR.cast (by kernel_rfl)) (by kernel_rfl) trivial (fun ρ1100 w1100 hm1100 hR1100 => ?_)
  have hS := hS.moved (hm1100.castL (by kernel_rfl))
  have hag := hag.moved (hm1100.castL (by kernel_rfl))
  refine sim_call 9 [.v (Value.slice o.l.A o.l.n o.l.c)] (by kernel_rfl) ?_
  refine Calls.mono (lent_any _ _ _ (o.l.xs) _ ((hL.below (hR1100).toBelow).more (hR1100).toBelow.size) (by omega)) ?_
  rintro e1101 w1101 ⟨gm, cm, rfl, hM0, hb1101⟩
  have hMn : ¬ (qU.has gm ∨ qR.has gm ∨ bkS b s gm) := fun hh => Nat.not_lt.2 hM0.lt.1 (hS.lt gm hh)
  have hMf : ∀ ad : Addr, some (Addr.mk gm 0 none) = some ad → ¬ qU.has ad.block := fun ad ha h => hMn (.inl (by injection ha with ha; rw [← ha] at h; exact h))
  have hM := Sta.new (S := fun y => y = gm) (V := fun w => Lent w _ gm o.l.n cm o.l.xs) hR1100 hM0 (fun y hy => hy ▸ hM0.lt.1) (fun y hy => hy ▸ hM0.lt.2) Lent.same
  have hS := hS.below hb1101
  have hR1101 := hR1100.below hb1101
  refine Back.of (.v (Value.slice (some (Addr.mk gm 0 none)) o.l.n cm)) hR1101 rfl ?_
  refine sim_run 6 [] (hR1101.cast (by kernel_rfl)) (by kernel_rfl) trivial (fun ρ1102 w1102 hm1102 hR1102 => ?_)
  have hag := hag.moved (hm1102.castL (by kernel_rfl))
  have hM := hM.moved (hm1102.castL (by kernel_rfl))
  have hS := hS.moved (hm1102.castL (by kernel_rfl))
  refine sim_call 10 [.ptr 0 0, .v (Value.slice (some (Addr.mk gm 0 none)) o.l.n cm)] (by kernel_rfl) ?_
  have ez0_1103 := (hag.at_ 0 (by omega)).trans e0
  simp only [denL, LV.den, Nm.at_, ez0_1103, Nat.add_zero]
  refine Calls.mono (joinQ_eq (qU) (u) _ _ _ _ (o.l.xs) (kk) (ee) (u2) _ hS.uf.is hS.good hS.big hM.is.rd (by omega) (by assumption) (by omega) (by assumption)) ?_
  rintro e1103 w1103 ⟨rfl, hV2, hk2⟩
  have hR1103 := (hR1102).keptW hk2 [] (by kernel_rfl) (by simp) (fun y hy => hS.far y (.inl hy)) (fun y hy => hS.ge y (.inl hy))
  have hS2 := hS.setU hR1102 hV2 hk2 (fun y hy => .inl hy) hg2 hb2
  have hM := hM.kept hk2 (fun y hy hh => hMn (.inl (hy ▸ hh)))
  have hS := hS2
  refine Back.of (.tup [LI kk, LI ee]) hR1103 rfl ?_
  refine sim_run 11 [] (hR1103.cast (by kernel_rfl)) (by kernel_rfl) trivial (fun ρ1104 w1104 hm1104 hR1104 => ?_)
  have hag := hag.moved (hm1104.castL (by kernel_rfl))
  have hS2 := hS2.moved (hm1104.castL (by kernel_rfl))
  have hM := hM.moved (hm1104.castL (by kernel_rfl))
  have hS := hS.moved (hm1104.castL (by kernel_rfl))
  refine sim_call 11 [.ptr 1 0, .v (Value.slice o.l.A o.l.n o.l.c)] (by kernel_rfl) ?_
  have ez1_1105 := (hag.at_ 1 (by omega)).trans e1
  simp only [denL, LV.den, Nm.at_, ez1_1105, Nat.add_zero]
  refine Calls.mono (join12_eq (qR) (u) _ _ _ _ (o.l.xs) (kk) (ee) (u2) _ hS.rf.is hS.goodv hS.bigv ((hL.below (hR1104).toBelow).more (hR1104).toBelow.size) (by omega) (by assumption) (by omega) (by assumption)) ?_
  rintro e1105 w1105 ⟨rfl, A3, c3, hV3, hk3, hq3⟩
  have hR1105 := (hR1104).keptW hk3 [] (by kernel_rfl) (by simp) (fun y hy => hS.far y (.inr (.inl (.inl hy)))) (fun y hy => hS.ge y (.inr (.inl (.inl hy))))
  have hS3 := hS.setR hR1104 hV3 hk3 (rf_has hq3) hg2 hb2
  have hM := hM.kept hk3 (fun y hy hh => hMn (.inr (.inl (.inl (hy.symm.trans hh)))))
  have hS := hS3
  refine Back.of (.tup [LI kk, LI ee]) hR1105 rfl ?_
  refine sim_run 12 [] (hR1105.cast (by kernel_rfl)) (by kernel_rfl) trivial (fun ρ1106 w1106 hm1106 hR1106 => ?_)
  have hag := hag.moved (hm1106.castL (by kernel_rfl))
  have hS3 := hS3.moved (hm1106.castL (by kernel_rfl))
  have hM := hM.moved (hm1106.castL (by kernel_rfl))
  have hS := hS.moved (hm1106.castL (by kernel_rfl))
  refine sim_know 103 (kk != kk) false (by kernel_rfl) (bne_self_eq_false _) ?_
  refine sim_run 5 [] (hR1106.cast (by kernel_rfl)) (by kernel_rfl) trivial (fun ρ1107 w1107 hm1107 hR1107 => ?_)
  have hag := hag.moved (hm1107.castL (by kernel_rfl))
  have hS3 := hS3.moved (hm1107.castL (by kernel_rfl))
  have hM := hM.moved (hm1107.castL (by kernel_rfl))
  have hS := hS.moved (hm1107.castL (by kernel_rfl))
  refine sim_know 108 (ee != ee) false (by kernel_rfl) (bne_self_eq_false _) ?_
  refine sim_run 3 [] (hR1107.cast (by kernel_rfl)) (by kernel_rfl) trivial (fun ρ1108 w1108 hm1108 hR1108 => ?_)
  have hag := hag.moved (hm1108.castL (by kernel_rfl))
  have hS3 := hS3.moved (hm1108.castL (by kernel_rfl))
  have hM := hM.moved (hm1108.castL (by kernel_rfl))
  have hS := hS.moved (hm1108.castL (by kernel_rfl))
  refine sim_call 12 [.v (Value.slice (some (Addr.mk gm 0 none)) o.l.n cm), .v (Value.slice o.l.A o.l.n o.l.c)] (by kernel_rfl) ?_
  refine Calls.mono (stays_eq _ _ _ _ _ _ _ _ _ hM.is ((hL.below (hR1108).toBelow).more (hR1108).toBelow.size) (by omega)) ?_
  rintro e1109 w1109 ⟨rfl, hb1109⟩
  have hR1109 := hR1108.below hb1109
  have hS3 := hS3.below hb1109
  have hM := hM.below hb1109
  have hS := hS.below hb1109
  refine Back.of (LB true) hR1109 rfl ?_
  refine sim_run 8 [] (hR1109.cast (by kernel_rfl)) (by kernel_rfl) trivial (fun ρ1110 w1110 hm1110 hR1110 => ?_)
  have hag := hag.moved (hm1110.castL (by kernel_rfl))
  have hS3 := hS3.moved (hm1110.castL (by kernel_rfl))
  have hM := hM.moved (hm1110.castL (by kernel_rfl))
  have hS := hS.moved (hm1110.castL (by kernel_rfl))
  
  have e0 := (hag.at_ 0 (by omega)).trans e0
  have e1 := (hag.at_ 1 (by omega)).trans e1
  have e2 := (hag.at_ 2 (by omega)).trans e2
  have hRz := ((by assumption : Rel _ _ _ _ _)).cast (rs' := [⟨[], false⟩, ⟨[], false⟩, ⟨[], false⟩, ⟨[], false⟩, ⟨[LI o.kind, LI o.n, .v (.slice o.l.A o.l.n o.l.c)], true⟩]) (by kernel_rfl)
  have hSz := hS.castR (rs' := [⟨[], false⟩, ⟨[], false⟩, ⟨[], false⟩, ⟨[], false⟩, ⟨[LI o.kind, LI o.n, .v (.slice o.l.A o.l.n o.l.c)], true⟩]) (by kernel_rfl)
  have hagz := hag.ag
  refine sim_to (regK Tryz.f3 31) (tmplJ Tryz.f3.ntmps 0 [(2, .v (.slice Ao k c)), (7, .ptr 0 0), (9, .ptr 1 0), (11, .ptr 2 0), (12, LI (i : Int)), (13, .ptr 4 0)]) [⟨[], false⟩, ⟨[], false⟩, ⟨[], false⟩, ⟨[], false⟩, ⟨[LI o.kind, LI o.n, .v (.slice o.l.A o.l.n o.l.c)], true⟩] (by kernel_rfl) (by kernel_rfl) (by kernel_rfl) (fun d4 => ?_)
  exact plays_mid hRz hSz hL hln hon e0 e1 e2 hi d4 (fun c' ρ' w' qU' qR' s' u' hk hm hl hag' hR' htk hS' h1 h2 => hfin c' ρ' w' qU' qR' s' u' hk hm hl ⟨hagz.tr hag'.ag, hag'.le⟩ hR' htk hS' (h1.trans rfl) (h2.trans rfl))
set_option maxRecDepth 100000 in
set_option maxHeartbeats 4000000 in
theorem plays_sw {Q : Exit → Act → World → Prop} {R : Ending → World → Prop} [hB : Body Tryz.prog Q Tryz.f3 R] {ρ : Nm} {w0 w : World} {qU : UfQ} {qR : RfP} {b : Nat} {s : KSt} {u : List Nat} {Ao : Option Addr} {k c i : Nat} {o : OpU} (hR : Rel [] w0 ρ [⟨[], false⟩, ⟨[], false⟩, ⟨[], false⟩, ⟨[], false⟩, ⟨[LI o.kind, LI o.n, .v (.slice o.l.A o.l.n o.l.c)], true⟩] w) (hS : LvS w0.heap.size qU qR b s u u ρ [⟨[], false⟩, ⟨[], false⟩, ⟨[], false⟩, ⟨[], false⟩, ⟨[LI o.kind, LI o.n, .v (.slice o.l.A o.l.n o.l.c)], true⟩] w) (hok : o.ok w0 w0.heap.size) (e0 : ρ 0 = (qU.b, 0)) (e1 : ρ 1 = (qR.b, 0)) (e2 : ρ 2 = (b, 0)) (hi : i < 1000) (d : Nat → Value) (hret : ∀ w', Below w0.heap.size w0 w' → R (.returned (.bool true)) w')
    (hfin : ∀ (c' : Cfg) (ρ' : Nm) (w' : World) (qU' : UfQ) (qR' : RfP) (s' : KSt) (u' : List Nat), c'.k = [] → mergeT (tmplJ Tryz.f3.ntmps 0 [(2, .v (.slice Ao k c)), (7, .ptr 0 0), (9, .ptr 1 0), (11, .ptr 2 0), (12, LI ((i : Int) + 1))]) c'.tmps = c'.tmps → (tmplJ Tryz.f3.ntmps 0 [(2, .v (.slice Ao k c)), (7, .ptr 0 0), (9, .ptr 1 0), (11, .ptr 2 0), (12, LI ((i : Int) + 1))]).length = c'.tmps.length → Ag 3 ρ ρ' c'.rs → Rel [] w0 ρ' c'.rs w' → c'.rs.take 3 = [⟨[], false⟩, ⟨[], false⟩, ⟨[], false⟩] → LvS w0.heap.size qU' qR' b s' u' u' ρ' c'.rs w' → qU'.b = qU.b → qR'.b = qR.b → At Tryz.prog Q c' ρ' w') :
    At Tryz.prog Q ⟨regK Tryz.f3 16, fillJ (tmplJ Tryz.f3.ntmps 0 [(2, .v (.slice Ao k c)), (7, .ptr 0 0), (9, .ptr 1 0), (11, .ptr 2 0), (12, LI (i : Int)), (13, .ptr 4 0)]) d 0, [⟨[], false⟩, ⟨[], false⟩, ⟨[], false⟩, ⟨[], false⟩, ⟨[LI o.kind, LI o.n, .v (.slice o.l.A o.l.n o.l.c)], true⟩]⟩ ρ w := by
  have hag := hR.ag_ 3 (by kernel_rfl)
  have hon := hok.n
  have hok1 := hok.kind
  have hL := hok.l.1
  have hlc := hok.l.2.1
  have hlm := hok.l.2.2.1
  unfold maxLen at hlm
  unfold Is64 at hon hok1
  by_cases h60 : 60 < o.l.n
  · refine sim_run 5 [] (hR.cast (by kernel_rfl)) (by kernel_rfl) trivial (fun ρ2100 w2100 hm2100 hR2100 => ?_)
    have hS := hS.moved (hm2100.castL (by kernel_rfl))
    have hag := hag.moved (hm2100.castL (by kernel_rfl))
    refine sim_know 79 (decide ((↑o.l.n : Int) > 60)) true (by kernel_rfl) (decide_eq_true (by omega)) ?_
    refine sim_run 5 [] (hR2100.cast (by kernel_rfl)) (by kernel_rfl) trivial (fun ρ2101 w2101 hm2101 hR2101 => ?_)
    have hS := hS.moved (hm2101.castL (by kernel_rfl))
    have hag := hag.moved (hm2101.castL (by kernel_rfl))
    
    exact sim_ret (LB true) (by assumption : Rel _ _ _ _ _) (by kernel_rfl) (by kernel_rfl) (hret _ ((by assumption : Rel _ _ _ _ _)).toBelow)
  · have hln : o.l.n ≤ 60 := by omega
    by_cases hk1 : o.kind = 1
    · refine sim_run 5 [] (hR.cast (by kernel_rfl)) (by kernel_rfl) trivial (fun ρ2200 w2200 hm2200 hR2200 => ?_)
      have hS := hS.moved (hm2200.castL (by kernel_rfl))
      have hag := hag.moved (hm2200.castL (by kernel_rfl))
      refine sim_know 79 (decide ((↑o.l.n : Int) > 60)) false (by kernel_rfl) (decide_eq_false (by omega)) ?_
      refine sim_run 14 [] (hR2200.cast (by kernel_rfl)) (by kernel_rfl) trivial (fun ρ2201 w2201 hm2201 hR2201 => ?_)
      have hS := hS.moved (hm2201.castL (by kernel_rfl))
      have hag := hag.moved (hm2201.castL (by kernel_rfl))
      refine sim_know 82 (o.kind == 1) true (by kernel_rfl) (decide_eq_true (by omega)) ?_
      refine sim_run 3 [] (hR2201.cast (by kernel_rfl)) (by kernel_rfl) trivial (fun ρ2202 w2202 hm2202 hR2202 => ?_)
      have hS := hS.moved (hm2202.castL (by kernel_rfl))
      have hag := hag.moved (hm2202.castL (by kernel_rfl))
      
      have e0 := (hag.at_ 0 (by omega)).trans e0
      have e1 := (hag.at_ 1 (by omega)).trans e1
      have e2 := (hag.at_ 2 (by omega)).trans e2
      have hRz := ((by assumption : Rel _ _ _ _ _)).cast (rs' := [⟨[], false⟩, ⟨[], false⟩, ⟨[], false⟩, ⟨[], false⟩, ⟨[LI o.kind, LI o.n, .v (.slice o.l.A o.l.n o.l.c)], true⟩]) (by kernel_rfl)
      have hSz := hS.castR (rs' := [⟨[], false⟩, ⟨[], false⟩, ⟨[], false⟩, ⟨[], false⟩, ⟨[LI o.kind, LI o.n, .v (.slice o.l.A o.l.n o.l.c)], true⟩]) (by kernel_rfl)
      have hagz := hag.ag
      refine sim_to (regK Tryz.f3 20) (tmplJ Tryz.f3.ntmps 0 [(2, .v (.slice Ao k c)), (7, .ptr 0 0), (9, .ptr 1 0), (11, .ptr 2 0), (12, LI (i : Int)), (13, .ptr 4 0)]) [⟨[], false⟩, ⟨[], false⟩, ⟨[], false⟩, ⟨[], false⟩, ⟨[LI o.kind, LI o.n, .v (.slice o.l.A o.l.n o.l.c)], true⟩] (by kernel_rfl) (by kernel_rfl) (by kernel_rfl) (fun d4 => ?_)
      exact plays_join hRz hSz hL hln hon e0 e1 e2 hi d4 (fun c' ρ' w' qU' qR' s' u' hk hm hl hag' hR' htk hS' h1 h2 => hfin c' ρ' w' qU' qR' s' u' hk hm hl ⟨hagz.tr hag'.ag, hag'.le⟩ hR' htk hS' h1 h2)
    · by_cases hk2 : o.kind = 2
      · by_cases h80 : 80 < o.n ∧ o.n ≤ 1000
        · obtain ⟨h81, h82⟩ := h80
          refine sim_run 5 [] (hR.cast (by kernel_rfl)) (by kernel_rfl) trivial (fun ρ2300 w2300 hm2300 hR2300 => ?_)
          have hS := hS.moved (hm2300.castL (by kernel_rfl))
          have hag := hag.moved (hm2300.castL (by kernel_rfl))
          refine sim_know 79 (decide ((↑o.l.n : Int) > 60)) false (by kernel_rfl) (decide_eq_false (by omega)) ?_
          refine sim_run 14 [] (hR2300.cast (by kernel_rfl)) (by kernel_rfl) trivial (fun ρ2301 w2301 hm2301 hR2301 => ?_)
          have hS := hS.moved (hm2301.castL (by kernel_rfl))
          have hag := hag.moved (hm2301.castL (by kernel_rfl))
          refine sim_know 82 (o.kind == 1) false (by kernel_rfl) (decide_eq_false (by omega)) ?_
          refine sim_run 6 [] (hR2301.cast (by kernel_rfl)) (by kernel_rfl) trivial (fun ρ2302 w2302 hm2302 hR2302 => ?_)
          have hS := hS.moved (hm2302.castL (by kernel_rfl))
          have hag := hag.moved (hm2302.castL (by kernel_rfl))
          refine sim_know 115 (o.kind == 2) true (by kernel_rfl) (decide_eq_true (by omega)) ?_
          refine sim_run 13 [] (hR2302.cast (by kernel_rfl)) (by kernel_rfl) trivial (fun ρ2303 w2303 hm2303 hR2303 => ?_)
          have hS := hS.moved (hm2303.castL (by kernel_rfl))
          have hag := hag.moved (hm2303.castL (by kernel_rfl))
          refine sim_know 121 (decide (o.n > 80)) true (by kernel_rfl) (decide_eq_true (by omega)) ?_
          refine sim_run 4 [] (hR2303.cast (by kernel_rfl)) (by kernel_rfl) trivial (fun ρ2304 w2304 hm2304 hR2304 => ?_)
          have hS := hS.moved (hm2304.castL (by kernel_rfl))
          have hag := hag.moved (hm2304.castL (by kernel_rfl))
          refine sim_know 124 (decide (o.n ≤ 1000)) true (by kernel_rfl) (decide_eq_true (by omega)) ?_
          refine sim_run 6 [] (hR2304.cast (by kernel_rfl)) (by kernel_rfl) trivial (fun ρ2305 w2305 hm2305 hR2305 => ?_)
          have hS := hS.moved (hm2305.castL (by kernel_rfl))
          have hag := hag.moved (hm2305.castL (by kernel_rfl))
          
          have e0 := (hag.at_ 0 (by omega)).trans e0
          have e1 := (hag.at_ 1 (by omega)).trans e1
          have e2 := (hag.at_ 2 (by omega)).trans e2
          have hRz := ((by assumption : Rel _ _ _ _ _)).cast (rs' := [⟨[], false⟩, ⟨[], false⟩, ⟨[], false⟩, ⟨[], false⟩, ⟨[LI o.kind, LI o.n, .v (.slice o.l.A o.l.n o.l.c)], true⟩]) (by kernel_rfl)
          have hSz := hS.castR (rs' := [⟨[], false⟩, ⟨[], false⟩, ⟨[], false⟩, ⟨[], false⟩, ⟨[LI o.kind, LI o.n, .v (.slice o.l.A o.l.n o.l.c)], true⟩]) (by kernel_rfl)
          have hagz := hag.ag
          refine sim_to (regK Tryz.f3 29) (tmplJ Tryz.f3.ntmps 0 [(2, .v (.slice Ao k c)), (7, .ptr 0 0), (9, .ptr 1 0), (11, .ptr 2 0), (12, LI (i : Int)), (13, .ptr 4 0), (19, LI 80)]) [⟨[], false⟩, ⟨[], false⟩, ⟨[], false⟩, ⟨[], false⟩, ⟨[LI o.kind, LI o.n, .v (.slice o.l.A o.l.n o.l.c)], true⟩] (by kernel_rfl) (by kernel_rfl) (by kernel_rfl) (fun d4 => ?_)
          exact plays_grow hRz hSz hL hln hon (.inl (by omega)) (by unfold Is64; omega) e0 e1 e2 hi d4 (fun c' ρ' w' qU' qR' s' u' hk hm hl hag' hR' htk hS' h1 h2 => hfin c' ρ' w' qU' qR' s' u' hk hm hl ⟨hagz.tr hag'.ag, hag'.le⟩ hR' htk hS' h1 h2)
        · by_cases h81 : 80 < o.n
          · have h82 : 1000 < o.n := by omega
            refine sim_run 5 [] (hR.cast (by kernel_rfl)) (by kernel_rfl) trivial (fun ρ2400 w2400 hm2400 hR2400 => ?_)
            have hS := hS.moved (hm2400.castL (by kernel_rfl))
            have hag := hag.moved (hm2400.castL (by kernel_rfl))
            refine sim_know 79 (decide ((↑o.l.n : Int) > 60)) false (by kernel_rfl) (decide_eq_false (by omega)) ?_
            refine sim_run 14 [] (hR2400.cast (by kernel_rfl)) (by kernel_rfl) trivial (fun ρ2401 w2401 hm2401 hR2401 => ?_)
            have hS := hS.moved (hm2401.castL (by kernel_rfl))
            have hag := hag.moved (hm2401.castL (by kernel_rfl))
            refine sim_know 82 (o.kind == 1) false (by kernel_rfl) (decide_eq_false (by omega)) ?_
            refine sim_run 6 [] (hR2401.cast (by kernel_rfl)) (by kernel_rfl) trivial (fun ρ2402 w2402 hm2402 hR2402 => ?_)
            have hS := hS.moved (hm2402.castL (by kernel_rfl))
            have hag := hag.moved (hm2402.castL (by kernel_rfl))
            refine sim_know 115 (o.kind == 2) true (by kernel_rfl) (decide_eq_true (by omega)) ?_
            refine sim_run 13 [] (hR2402.cast (by kernel_rfl)) (by kernel_rfl) trivial (fun ρ2403 w2403 hm2403 hR2403 => ?_)
            have hS := hS.moved (hm2403.castL (by kernel_rfl))
            have hag := hag.moved (hm2403.castL (by kernel_rfl))
            refine sim_know 121 (decide (o.n > 80)) true (by kernel_rfl) (decide_eq_true (by omega)) ?_
            refine sim_run 4 [] (hR2403.cast (by kernel_rfl)) (by kernel_rfl) trivial (fun ρ2404 w2404 hm2404 hR2404 => ?_)
            have hS := hS.moved (hm2404.castL (by kernel_rfl))
            have hag := hag.moved (hm2404.castL (by kernel_rfl))
            refine sim_know 124 (decide (o.n ≤ 1000)) false (by kernel_rfl) (decide_eq_false (by omega)) ?_
            refine sim_run 4 [] (hR2404.cast (by kernel_rfl)) (by kernel_rfl) trivial (fun ρ2405 w2405 hm2405 hR2405 => ?_)
            have hS := hS.moved (hm2405.castL (by kernel_rfl))
            have hag := hag.moved (hm2405.castL (by kernel_rfl))
            
            have e0 := (hag.at_ 0 (by omega)).trans e0
            have e1 := (hag.at_ 1 (by omega)).trans e1
            have e2 := (hag.at_ 2 (by omega)).trans e2
            have hRz := ((by assumption : Rel _ _ _ _ _)).cast (rs' := [⟨[], false⟩, ⟨[], false⟩, ⟨[], false⟩, ⟨[], false⟩, ⟨[LI o.kind, LI o.n, .v (.slice o.l.A o.l.n o.l.c)], true⟩]) (by kernel_rfl)
            have hSz := hS.castR (rs' := [⟨[], false⟩, ⟨[], false⟩, ⟨[], false⟩, ⟨[], false⟩, ⟨[LI o.kind, LI o.n, .v (.slice o.l.A o.l.n o.l.c)], true⟩]) (by kernel_rfl)
            have hagz := hag.ag
            refine sim_to (regK Tryz.f3 29) (tmplJ Tryz.f3.ntmps 0 [(2, .v (.slice Ao k c)), (7, .ptr 0 0), (9, .ptr 1 0), (11, .ptr 2 0), (12, LI (i : Int)), (13, .ptr 4 0), (19, LI o.n)]) [⟨[], false⟩, ⟨[], false⟩, ⟨[], false⟩, ⟨[], false⟩, ⟨[LI o.kind, LI o.n, .v (.slice o.l.A o.l.n o.l.c)], true⟩] (by kernel_rfl) (by kernel_rfl) (by kernel_rfl) (fun d4 => ?_)
            exact plays_grow hRz hSz hL hln hon (by omega) hok.n e0 e1 e2 hi d4 (fun c' ρ' w' qU' qR' s' u' hk hm hl hag' hR' htk hS' h1 h2 => hfin c' ρ' w' qU' qR' s' u' hk hm hl ⟨hagz.tr hag'.ag, hag'.le⟩ hR' htk hS' h1 h2)
          · refine sim_run 5 [] (hR.cast (by kernel_rfl)) (by kernel_rfl) trivial (fun ρ2500 w2500 hm2500 hR2500 => ?_)
            have hS := hS.moved (hm2500.castL (by kernel_rfl))
            have hag := hag.moved (hm2500.castL (by kernel_rfl))
            refine sim_know 79 (decide ((↑o.l.n : Int) > 60)) false (by kernel_rfl) (decide_eq_false (by omega)) ?_
            refine sim_run 14 [] (hR2500.cast (by kernel_rfl)) (by kernel_rfl) trivial (fun ρ2501 w2501 hm2501 hR2501 => ?_)
            have hS := hS.moved (hm2501.castL (by kernel_rfl))
            have hag := hag.moved (hm2501.castL (by kernel_rfl))
            refine sim_know 82 (o.kind == 1) false (by kernel_rfl) (decide_eq_false (by omega)) ?_
            refine sim_run 6 [] (hR2501.cast (by kernel_rfl)) (by kernel_rfl) trivial (fun ρ2502 w2502 hm2502 hR2502 => ?_)
            have hS := hS.moved (hm2502.castL (by kernel_rfl))
            have hag := hag.moved (hm2502.castL (by kernel_rfl))
            refine sim_know 115 (o.kind == 2) true (by kernel_rfl) (decide_eq_true (by omega)) ?_
            refine sim_run 13 [] (hR2502.cast (by kernel_rfl)) (by kernel_rfl) trivial (fun ρ2503 w2503 hm2503 hR2503 => ?_)
            have hS := hS.moved (hm2503.castL (by kernel_rfl))
            have hag := hag.moved (hm2503.castL (by kernel_rfl))
            refine sim_know 121 (decide (o.n > 80)) false (by kernel_rfl) (decide_eq_false (by omega)) ?_
            refine sim_run 8 [] (hR2503.cast (by kernel_rfl)) (by kernel_rfl) trivial (fun ρ2504 w2504 hm2504 hR2504 => ?_)
            have hS := hS.moved (hm2504.castL (by kernel_rfl))
            have hag := hag.moved (hm2504.castL (by kernel_rfl))
            
            have e0 := (hag.at_ 0 (by omega)).trans e0
            have e1 := (hag.at_ 1 (by omega)).trans e1
            have e2 := (hag.at_ 2 (by omega)).trans e2
            have hRz := ((by assumption : Rel _ _ _ _ _)).cast (rs' := [⟨[], false⟩, ⟨[], false⟩, ⟨[], false⟩, ⟨[], false⟩, ⟨[LI o.kind, LI o.n, .v (.slice o.l.A o.l.n o.l.c)], true⟩]) (by kernel_rfl)
            have hSz := hS.castR (rs' := [⟨[], false⟩, ⟨[], false⟩, ⟨[], false⟩, ⟨[], false⟩, ⟨[LI o.kind, LI o.n, .v (.slice o.l.A o.l.n o.l.c)], true⟩]) (by kernel_rfl)
            have hagz := hag.ag
            refine sim_to (regK Tryz.f3 29) (tmplJ Tryz.f3.ntmps 0 [(2, .v (.slice Ao k c)), (7, .ptr 0 0), (9, .ptr 1 0), (11, .ptr 2 0), (12, LI (i : Int)), (13, .ptr 4 0), (19, LI o.n)]) [⟨[], false⟩, ⟨[], false⟩, ⟨[], false⟩, ⟨[], false⟩, ⟨[LI o.kind, LI o.n, .v (.slice o.l.A o.l.n o.l.c)], true⟩] (by kernel_rfl) (by kernel_rfl) (by kernel_rfl) (fun d4 => ?_)
            exact plays_grow hRz hSz hL hln hon (by omega) hok.n e0 e1 e2 hi d4 (fun c' ρ' w' qU' qR' s' u' hk hm hl hag' hR' htk hS' h1 h2 => hfin c' ρ' w' qU' qR' s' u' hk hm hl ⟨hagz.tr hag'.ag, hag'.le⟩ hR' htk hS' h1 h2)
      · refine sim_run 5 [] (hR.cast (by kernel_rfl)) (by kernel_rfl) trivial (fun ρ2600 w2600 hm2600 hR2600 => ?_)
        have hS := hS.moved (hm2600.castL (by kernel_rfl))
        have hag := hag.moved (hm2600.castL (by kernel_rfl))
        refine sim_know 79 (decide ((↑o.l.n : Int) > 60)) false (by kernel_rfl) (decide_eq_false (by omega)) ?_
        refine sim_run 14 [] (hR2600.cast (by kernel_rfl)) (by kernel_rfl) trivial (fun ρ2601 w2601 hm2601 hR2601 => ?_)
        have hS := hS.moved (hm2601.castL (by kernel_rfl))
        have hag := hag.moved (hm2601.castL (by kernel_rfl))
        refine sim_know 82 (o.kind == 1) false (by kernel_rfl) (decide_eq_false (by omega)) ?_
        refine sim_run 6 [] (hR2601.cast (by kernel_rfl)) (by kernel_rfl) trivial (fun ρ2602 w2602 hm2602 hR2602 => ?_)
        have hS := hS.moved (hm2602.castL (by kernel_rfl))
        have hag := hag.moved (hm2602.castL (by kernel_rfl))
        refine sim_know 115 (o.kind == 2) false (by kernel_rfl) (decide_eq_false (by omega)) ?_
        refine sim_run 5 [] (hR2602.cast (by kernel_rfl)) (by kernel_rfl) trivial (fun ρ2603 w2603 hm2603 hR2603 => ?_)
        have hS := hS.moved (hm2603.castL (by kernel_rfl))
        have hag := hag.moved (hm2603.castL (by kernel_rfl))
        
        have e0 := (hag.at_ 0 (by omega)).trans e0
        have e1 := (hag.at_ 1 (by omega)).trans e1
        have e2 := (hag.at_ 2 (by omega)).trans e2
        have hRz := ((by assumption : Rel _ _ _ _ _)).cast (rs' := [⟨[], false⟩, ⟨[], false⟩, ⟨[], false⟩, ⟨[], false⟩, ⟨[LI o.kind, LI o.n, .v (.slice o.l.A o.l.n o.l.c)], true⟩]) (by kernel_rfl)
        have hSz := hS.castR (rs' := [⟨[], false⟩, ⟨[], false⟩, ⟨[], false⟩, ⟨[], false⟩, ⟨[LI o.kind, LI o.n, .v (.slice o.l.A o.l.n o.l.c)], true⟩]) (by kernel_rfl)
        have hagz := hag.ag
        refine sim_to (regK Tryz.f3 31) (tmplJ Tryz.f3.ntmps 0 [(2, .v (.slice Ao k c)), (7, .ptr 0 0), (9, .ptr 1 0), (11, .ptr 2 0), (12, LI (i : Int)), (13, .ptr 4 0)]) [⟨[], false⟩, ⟨[], false⟩, ⟨[], false⟩, ⟨[], false⟩, ⟨[LI o.kind, LI o.n, .v (.slice o.l.A o.l.n o.l.c)], true⟩] (by kernel_rfl) (by kernel_rfl) (by kernel_rfl) (fun d4 => ?_)
        exact plays_mid hRz hSz hL hln hon e0 e1 e2 hi d4 (fun c' ρ' w' qU' qR' s' u' hk hm hl hag' hR' htk hS' h1 h2 => hfin c' ρ' w' qU' qR' s' u' hk hm hl ⟨hagz.tr hag'.ag, hag'.le⟩ hR' htk hS' (h1.trans rfl) (h2.trans rfl))
end Go.Proofs.YtedfbdeklepekaaGreat
