/-
  UfPlays: the end; all classes are alike, and are kept.
-/
import Derived.Test.YtedfbdeklepekaaGreatUfN
namespace Go.Proofs.YtedfbdeklepekaaGreat
open Go Go.RowKit
def endU (w0 : World) (e : Ending) (w' : World) : Prop := e = .returned (.bool true) ∧ Below w0.heap.size w0 w'
theorem rl_wS {b : Nat} {s : KSt} {q : RL} {w : World} (hB : BookI b s w) (hV : RLV q w) (ho : ∀ g, q.v.ownBlock = some g → ¬ bkS b s g) : ∀ y, q.has y → ¬ wS b s y := by
  intro y hy hw
  rcases hy with h1 | ⟨r, h1, h2⟩
  · exact ho y h1 (wS_bk hw)
  · rcases hw with rfl | hw | hw
    · exact own_blk_ne (hV.rows r h1) hB.blk (by decide) h2
    · exact own_ne (hV.rows r h1) hB.ki.list (by decide) y h2 hw
    · exact own_ne (hV.rows r h1) hB.ki.copies (by decide) y h2 hw
theorem rdA {q : RL} {ρ : Nm} {rs : List Reg} {w : World} {A : Option Addr} {n c : Nat} {l : List Nat} (h : Sta q.has (RLV q) ρ rs w) (hm : BRow.mk (.slice A n c) n (nats l) ∈ q.rows) : Reads w w.heap.size 1 A n (ints (l.map Int.ofNat)) := by
  have h1 := h.is.rows _ hm
  rw [← nats_ints]
  exact Reads.of_own h1
theorem owA {q : RL} {ρ : Nm} {rs : List Reg} {w : World} {A : Option Addr} {n c : Nat} {l : List Nat} (h : Sta q.has (RLV q) ρ rs w) (hm : BRow.mk (.slice A n c) n (nats l) ∈ q.rows) : w.ownsRow 0 3 1 (.slice A n c) n (ints (l.map Int.ofNat)) := by
  have h1 := h.is.rows _ hm
  rw [← nats_ints]
  exact h1
theorem out_ne {n0 : Nat} {qU : UfQ} {qR : RfP} {b : Nat} {s s' : KSt} {u v : List Nat} {ρ : Nm} {rs : List Reg} {w : World} {q : RL} {x : Value} {n : Nat} {xs : List Value} (_ : LvS n0 qU qR b s u v ρ rs w) (ho : ∀ g, q.v.ownBlock = some g → ¬ bkS b s g) (hV : RLV q w) (hx : w.ownsRow 0 3 1 x n xs) (hq : ∀ y, s'.has y → s.has y ∨ x.ownBlock = some y ∨ w.heap.size ≤ y) : ∀ g, q.v.ownBlock = some g → ¬ bkS b s' g := by
  intro g hg hb
  rcases hb with e | hb
  · exact ho g hg (.inl e)
  · rcases hq g hb with h1 | h1 | h1
    · exact ho g hg (.inr h1)
    · exact own_ne hx hV.list (by decide) g h1 hg
    · have := own_lt hV.list hg; omega
attribute [local irreducible] run goO leaveK someK nextK nextT nextOT nextOD loopBody loopRest loopK fillJ tmplOf tmplJ mergeT At AtO drawOk ordOf gateOf callC callO topOp topO idxOf appOf storeOf clearOf sliceOf calleeOf calleeO topQ idxQ newRowOf resL stepOp seek
set_option maxRecDepth 100000 in
set_option maxHeartbeats 4000000 in
theorem plays_end {ρ : Nm} {w0 w : World} {qU : UfQ} {qR : RfP} {b : Nat} {s : KSt} {u v : List Nat} (hR : Rel [] w0 ρ [⟨[], false⟩, ⟨[], false⟩, ⟨[], false⟩] w) (hS : LvS w0.heap.size qU qR b s u v ρ [⟨[], false⟩, ⟨[], false⟩, ⟨[], false⟩] w) (e2 : ρ 2 = (b, 0)) (d : Nat → Value) :
    At Tryz.prog (bodyPost Tryz.prog Tryz.f3 (endU w0)) ⟨regK Tryz.f3 42, fillJ (tmplJ Tryz.f3.ntmps 0 [(11, .ptr 2 0)]) d 0, [⟨[], false⟩, ⟨[], false⟩, ⟨[], false⟩]⟩ ρ w := by
  have hag := hR.ag_ 3 (by kernel_rfl)
  refine sim_call 6 [] (by kernel_rfl) ?_
  refine Calls.mono (alive_any _) ?_
  rintro e100 w100 ⟨rfl, hb100⟩
  have hR100 := hR.below hb100
  have hS := hS.below hb100
  refine Back.of (LB true) hR100 rfl ?_
  refine sim_run 2 [] (hR100.cast (by kernel_rfl)) (by kernel_rfl) trivial (fun ρ101 w101 hm101 hR101 => ?_)
  have hag := hag.moved (hm101.castL (by kernel_rfl))
  have hS := hS.moved (hm101.castL (by kernel_rfl))
  refine sim_call 26 [.ptr 2 0] (by kernel_rfl) ?_
  have ez2_102 := (hag.at_ 2 (by omega)).trans e2
  simp only [denL, LV.den, Nm.at_, ez2_102, Nat.add_zero]
  refine Calls.mono (apartI hS.bk.is hS.kg) ?_
  rintro e102 w102 ⟨rfl, hk102⟩
  have hR102 := (hR101).keptW hk102 [] (by kernel_rfl) (by simp) (fun y hy => hS.far y (.inr (.inr (.inr (by obtain ⟨r, h1, h2⟩ := mem_rowT.1 hy; exact .inr (.inr ⟨r, .inl h1, h2⟩)))))) (fun y hy => hS.ge y (.inr (.inr (.inr (by obtain ⟨r, h1, h2⟩ := mem_rowT.1 hy; exact .inr (.inr ⟨r, .inl h1, h2⟩))))))
  refine Back.of (LB true) hR102 rfl ?_
  refine sim_run 3 [] (hR102.cast (by kernel_rfl)) (by kernel_rfl) trivial (fun ρ103 w103 hm103 hR103 => ?_)
  have hag := hag.moved (hm103.castL (by kernel_rfl))
  refine sim_ret (LB true) hR103 (by kernel_rfl) (by kernel_rfl) ?_
  exact ⟨rfl, (hR103).toBelow⟩
  
set_option maxRecDepth 100000 in
set_option maxHeartbeats 4000000 in
theorem plays_all {Q : Exit → Act → World → Prop} {R : Ending → World → Prop} [hB : Body Tryz.prog Q Tryz.f3 R] {ρ : Nm} {w0 w : World} {qU : UfQ} {qR : RfP} {b : Nat} {s : KSt} {u : List Nat} {Ao : Option Addr} {k c i : Nat} {Aa Aw : Option Addr} {na ca cw : Nat} {rowsA rowsW : List BRow} (hR : Rel [] w0 ρ [⟨[], false⟩, ⟨[], false⟩, ⟨[], false⟩] w) (hS : LvS w0.heap.size qU qR b s u u ρ [⟨[], false⟩, ⟨[], false⟩, ⟨[], false⟩] w) (hA : Sta (RL.mk (.slice Aa na ca) rowsA).has (RLV (RL.mk (.slice Aa na ca) rowsA)) ρ [⟨[], false⟩, ⟨[], false⟩, ⟨[], false⟩] w) (hW : Sta (RL.mk (.slice Aw na cw) rowsW).has (RLV (RL.mk (.slice Aw na cw) rowsW)) ρ [⟨[], false⟩, ⟨[], false⟩, ⟨[], false⟩] w) (hna : na = (Uf.classes u).length) (hla : rowsA.length = na) (hlw : rowsW.length = na) (hAs : rowsA.map (fun r => (r.n, r.xs)) = (Uf.classes u).map (fun l => (l.length, nats l))) (hWs : rowsW.map (fun r => (r.n, r.xs)) = (Uf.classes u).map (fun l => (l.length, nats l))) (hAp : rowsA.Pairwise fun a b => ∀ g, a.v.ownBlock = some g → b.v.ownBlock ≠ some g) (hAc : ∀ y, (RL.mk (.slice Aa na ca) rowsA).has y → ¬ qU.has y ∧ ¬ qR.has y ∧ w0.heap.size ≤ y) (hAb : ∀ y, (RL.mk (.slice Aa na ca) rowsA).has y → ¬ bkS b s y) (hWb : ∀ y, (RL.mk (.slice Aw na cw) rowsW).has y → ¬ bkS b s y) (e0 : ρ 0 = (qU.b, 0)) (e1 : ρ 1 = (qR.b, 0)) (e2 : ρ 2 = (b, 0)) (hi : i < 1000) (d : Nat → Value)
    (hfin : ∀ (c' : Cfg) (ρ' : Nm) (w' : World) (qU' : UfQ) (qR' : RfP) (s' : KSt) (u' : List Nat), c'.k = [] → mergeT (tmplJ Tryz.f3.ntmps 0 [(2, .v (.slice Ao k c)), (7, .ptr 0 0), (9, .ptr 1 0), (11, .ptr 2 0), (12, LI ((i : Int) + 1))]) c'.tmps = c'.tmps → (tmplJ Tryz.f3.ntmps 0 [(2, .v (.slice Ao k c)), (7, .ptr 0 0), (9, .ptr 1 0), (11, .ptr 2 0), (12, LI ((i : Int) + 1))]).length = c'.tmps.length → Ag 3 ρ ρ' c'.rs → Rel [] w0 ρ' c'.rs w' → c'.rs.take 3 = [⟨[], false⟩, ⟨[], false⟩, ⟨[], false⟩] → LvS w0.heap.size qU' qR' b s' u' u' ρ' c'.rs w' → qU'.b = qU.b → qR'.b = qR.b → At Tryz.prog Q c' ρ' w') :
    At Tryz.prog Q ⟨regK Tryz.f3 36, fillJ (tmplJ Tryz.f3.ntmps 0 [(2, .v (.slice Ao k c)), (7, .ptr 0 0), (9, .ptr 1 0), (11, .ptr 2 0), (12, LI (i : Int)), (21, .v (.slice Aa na ca)), (22, .v (.slice Aw na cw))]) d 0, [⟨[], false⟩, ⟨[], false⟩, ⟨[], false⟩]⟩ ρ w := by
  have hag := hR.ag_ 3 (by kernel_rfl)
  have hcl : (Uf.classes u).length ≤ 1000 := by
    have h1 := List.length_filter_le (fun i => decide (Uf.hd u i = i)) (List.range' 1 u.length)
    have h2 := hS.big
    rw [List.length_range'] at h1
    unfold Uf.classes Uf.heads
    rw [List.length_map]
    omega
  refine sim_run 3 [] (hR.cast (by kernel_rfl)) (by kernel_rfl) trivial (fun ρ1100 w1100 hm1100 hR1100 => ?_)
  have hS := hS.moved (hm1100.castL (by kernel_rfl))
  have hA := hA.moved (hm1100.castL (by kernel_rfl))
  have hW := hW.moved (hm1100.castL (by kernel_rfl))
  have hag := hag.moved (hm1100.castL (by kernel_rfl))
  
  have e0 := (hag.at_ 0 (by omega)).trans e0
  have e1 := (hag.at_ 1 (by omega)).trans e1
  have e2 := (hag.at_ 2 (by omega)).trans e2
  refine sim_loop (ι := Nat × KSt) (T := []) (w0 := w0) (0, s) [2, 7, 9, 11, 12, 21, 22] (fun t => [(23, LI t.1)]) (fun _ => [⟨[], false⟩, ⟨[], false⟩, ⟨[], false⟩]) (fun t w1 => t.1 ≤ na ∧ LvS w0.heap.size qU qR b t.2 u u ρ1100 [⟨[], false⟩, ⟨[], false⟩, ⟨[], false⟩] w1 ∧ Sta (RL.mk (.slice Aa na ca) rowsA).has (RLV (RL.mk (.slice Aa na ca) rowsA)) ρ1100 [⟨[], false⟩, ⟨[], false⟩, ⟨[], false⟩] w1 ∧ Sta (RL.mk (.slice Aw na cw) rowsW).has (RLV (RL.mk (.slice Aw na cw) rowsW)) ρ1100 [⟨[], false⟩, ⟨[], false⟩, ⟨[], false⟩] w1 ∧ (∀ g, (Value.slice Aa na ca).ownBlock = some g → ¬ bkS b t.2 g) ∧ (∀ g, (Value.slice Aw na cw).ownBlock = some g → ¬ bkS b t.2 g) ∧ (∀ (j : Nat) (r : BRow), t.1 ≤ j → rowsA[j]? = some r → ∀ g, r.v.ownBlock = some g → ∀ q ∈ t.2.rows, q.v.ownBlock ≠ some g)) (fun t => na - t.1) (by kernel_rfl) (by kernel_rfl) ((by assumption : Rel _ _ _ _ _).cast (by kernel_rfl)) ⟨Nat.zero_le _, hS.castR (by kernel_rfl), hA.castR (by kernel_rfl), hW.castR (by kernel_rfl), fun g hg => hAb g (.inl hg), fun g hg => hWb g (.inl hg), fun j r _ hr g hg q hq he => hAb g (.inr ⟨r, List.mem_of_getElem? hr, hg⟩) (.inr (.inr (.inr ⟨q, .inl hq, he⟩)))⟩ ?_
  have hagO := hag.castR (rs' := [⟨[], false⟩, ⟨[], false⟩, ⟨[], false⟩]) (by kernel_rfl)
  iterate 8 (try clear hS)
  iterate 8 (try clear hA)
  iterate 8 (try clear hW)
  iterate 8 (try clear hag)
  rintro ⟨j, s1⟩ d4 w4 hR4 ⟨hj, hS, hA, hW, hAo, hWo, hAr⟩
  dsimp only at hj hS hA hW hAo hWo hAr
  have hag := hR4.ag_ 3 (by kernel_rfl)
  by_cases hlt : j < na
  · obtain ⟨l, hl⟩ : ∃ l, (Uf.classes u)[j]? = some l := ⟨_, List.getElem?_eq_getElem (by omega)⟩
    have hll : l.length ≤ 1000 := by
      have h1 := Uf.classes_row_len (u := u) (k := j) (by omega)
      have h2 : (Uf.classes u).getD j [] = l := by rw [List.getD_eq_getElem?_getD, hl]; rfl
      rw [h2] at h1
      exact Nat.le_trans h1 hS.big
    obtain ⟨va, hra⟩ := shape_at hAs hl
    obtain ⟨vw, hrw⟩ := shape_at hWs hl
    have hoa := hA.is.rows _ (List.mem_of_getElem? hra)
    have how := hW.is.rows _ (List.mem_of_getElem? hrw)
    dsimp only at hoa how
    obtain ⟨A1, c1, rfl⟩ := own_row' hoa
    obtain ⟨A2, c2, rfl⟩ := own_row' how
    have hLa := hA.is.list
    have hLw := hW.is.list
    dsimp only at hLa hLw
    rw [hla] at hLa
    rw [hlw] at hLw
    obtain ⟨gA, rfl⟩ := own_spot hLa (by omega)
    obtain ⟨gW, rfl⟩ := own_spot hLw (by omega)
    refine sim_seeK _ j 3 (by kernel_rfl) hra ⟨hLa, fun g hg => hA.far g (.inl hg)⟩ hlt hR4 (by kernel_rfl) (fun ρE hmE eE hRE => ?_)
    have hS := hS.moved hmE
    have hA := hA.moved hmE
    have hW := hW.moved hmE
    have hag0 := hag.moved hmE
    have hagE := hRE.ag_ 4 (by kernel_rfl)
    refine sim_seeK _ j 4 (by kernel_rfl) hrw ⟨hLw, fun g hg => hW.far g (.inl hg)⟩ hlt hRE (by kernel_rfl) (fun ρF hmF eF hRF => ?_)
    have hS := hS.moved hmF
    have hA := hA.moved hmF
    have hW := hW.moved hmF
    have hag0 := hag0.moved hmF
    have hagE := hagE.moved hmF
    have hag := hRF.ag_ 5 (by kernel_rfl)
    have eE := (hagE.at_ 3 (by omega)).trans eE
    have e0 := (hag0.at_ 0 (by omega)).trans e0
    have e1 := (hag0.at_ 1 (by omega)).trans e1
    have e2 := (hag0.at_ 2 (by omega)).trans e2
    have hmA := List.mem_of_getElem? hra
    have hmW := List.mem_of_getElem? hrw
    have hx1 : ∀ y, (Value.slice A1 l.length c1).ownBlock = some y → (RL.mk (.slice (some ⟨gA, 0, none⟩) na ca) rowsA).has y := fun y hy => .inr ⟨_, hmA, hy⟩
    have hnl : (l.map Int.ofNat).length = l.length := List.length_map _
    refine sim_run 8 [] (hRF.cast (by kernel_rfl)) (by kernel_rfl) trivial (fun ρ1200 w1200 hm1200 hR1200 => ?_)
    have hS := hS.moved (hm1200.castL (by kernel_rfl))
    have hA := hA.moved (hm1200.castL (by kernel_rfl))
    have hW := hW.moved (hm1200.castL (by kernel_rfl))
    have hag0 := hag0.moved (hm1200.castL (by kernel_rfl))
    have hagE := hagE.moved (hm1200.castL (by kernel_rfl))
    have hag := hag.moved (hm1200.castL (by kernel_rfl))
    refine sim_know 192 (decide ((↑(j, s1).fst : Int) < (↑na : Int))) true (by kernel_rfl) (decide_eq_true (by omega)) ?_
    refine sim_run 6 [] (hR1200.cast (by kernel_rfl)) (by kernel_rfl) trivial (fun ρ1201 w1201 hm1201 hR1201 => ?_)
    have hS := hS.moved (hm1201.castL (by kernel_rfl))
    have hA := hA.moved (hm1201.castL (by kernel_rfl))
    have hW := hW.moved (hm1201.castL (by kernel_rfl))
    have hag0 := hag0.moved (hm1201.castL (by kernel_rfl))
    have hagE := hagE.moved (hm1201.castL (by kernel_rfl))
    have hag := hag.moved (hm1201.castL (by kernel_rfl))
    refine sim_draw [] (by kernel_rfl) (by kernel_rfl) hR1201 (fun hR1202 => ?_)
    have hS := hS.drew
    have hA := hA.drew
    have hW := hW.drew
    refine sim_ordN 2 [] hR1202 (by kernel_rfl) trivial (fun ρ1203 w1203 hm1203 hR1203 => ?_)
    have hag0 := hag0.moved (hm1203.castL (by kernel_rfl))
    have hagE := hagE.moved (hm1203.castL (by kernel_rfl))
    have hag := hag.moved (hm1203.castL (by kernel_rfl))
    have hS := hS.moved (hm1203.castL (by kernel_rfl))
    have hA := hA.moved (hm1203.castL (by kernel_rfl))
    have hW := hW.moved (hm1203.castL (by kernel_rfl))
    refine sim_ord_index (.v (.slice (some ⟨gA, 0, none⟩) na ca)) na 1 j 3 0 (by kernel_rfl) (by omega) (by omega) rfl hR1203 (by simp only [Nm.at_, hag.at_ 3 (by omega), eE, Nat.add_zero, Nat.zero_add, Int.toNat_natCast, Nat.mul_one]) (fun hR1204 => ?_)
    refine sim_ordN 3 [] hR1204 (by kernel_rfl) trivial (fun ρ1205 w1205 hm1205 hR1205 => ?_)
    have hag0 := hag0.moved (hm1205.castL (by kernel_rfl))
    have hagE := hagE.moved (hm1205.castL (by kernel_rfl))
    have hag := hag.moved (hm1205.castL (by kernel_rfl))
    have hS := hS.moved (hm1205.castL (by kernel_rfl))
    have hA := hA.moved (hm1205.castL (by kernel_rfl))
    have hW := hW.moved (hm1205.castL (by kernel_rfl))
    refine sim_ord_index (.v (.slice (some ⟨gW, 0, none⟩) na cw)) na 1 j 4 0 (by kernel_rfl) (by omega) (by omega) rfl hR1205 (by simp only [Nm.at_, hag.at_ 4 (by omega), eF, Nat.add_zero, Nat.zero_add, Int.toNat_natCast, Nat.mul_one]) (fun hR1207 => ?_)
    refine sim_ordN 1 [] hR1207 (by kernel_rfl) trivial (fun ρ1208 w1208 hm1208 hR1208 => ?_)
    have hag0 := hag0.moved (hm1208.castL (by kernel_rfl))
    have hagE := hagE.moved (hm1208.castL (by kernel_rfl))
    have hag := hag.moved (hm1208.castL (by kernel_rfl))
    have hS := hS.moved (hm1208.castL (by kernel_rfl))
    have hA := hA.moved (hm1208.castL (by kernel_rfl))
    have hW := hW.moved (hm1208.castL (by kernel_rfl))
    refine sim_ord_call (T := []) (w0 := w0) 24 [.v (Value.slice A1 l.length c1), .v (Value.slice A2 l.length c2)] (by kernel_rfl) ?_
    refine Calls.mono (sameI_eq _ _ _ _ _ _ _ _ _ (rdA hA hmA) (rdA hW hmW) (by omega)) ?_
    rintro e1209 w1209 ⟨rfl, hb1209⟩
    have hR1209 := hR1208.call hb1209 (LB true)
    have hS := hS.below hb1209
    have hA := hA.below hb1209
    have hW := hW.below hb1209
    refine BackO.of (LB true) hR1209 rfl ?_
    refine sim_ordN 1 [] hR1209 (by kernel_rfl) trivial (fun ρ1210 w1210 hm1210 hR1210 => ?_)
    have hag0 := hag0.moved (hm1210.castL (by kernel_rfl))
    have hagE := hagE.moved (hm1210.castL (by kernel_rfl))
    have hag := hag.moved (hm1210.castL (by kernel_rfl))
    have hS := hS.moved (hm1210.castL (by kernel_rfl))
    have hA := hA.moved (hm1210.castL (by kernel_rfl))
    have hW := hW.moved (hm1210.castL (by kernel_rfl))
    refine sim_ord_endR hR1210 (by kernel_rfl) (fun hR1211 => ?_)
    refine sim_run 6 [] (hR1211.cast (by kernel_rfl)) (by kernel_rfl) trivial (fun ρ1212 w1212 hm1212 hR1212 => ?_)
    have hag0 := hag0.moved (hm1212.castL (by kernel_rfl))
    have hagE := hagE.moved (hm1212.castL (by kernel_rfl))
    have hag := hag.moved (hm1212.castL (by kernel_rfl))
    have hS := hS.moved (hm1212.castL (by kernel_rfl))
    have hA := hA.moved (hm1212.castL (by kernel_rfl))
    have hW := hW.moved (hm1212.castL (by kernel_rfl))
    refine sim_place (.v (.slice (some ⟨gA, 0, none⟩) na ca)) na 1 j 3 0 (by kernel_rfl) (by omega) (by omega) rfl (by simp only [Nm.at_, hag.at_ 3 (by omega), eE, Nat.add_zero, Nat.zero_add, Int.toNat_natCast, Nat.mul_one]) ?_
    refine sim_run 1 [] (hR1212.cast (by kernel_rfl)) (by kernel_rfl) trivial (fun ρ1214 w1214 hm1214 hR1214 => ?_)
    have hag0 := hag0.moved (hm1214.castL (by kernel_rfl))
    have hagE := hagE.moved (hm1214.castL (by kernel_rfl))
    have hag := hag.moved (hm1214.castL (by kernel_rfl))
    have hS := hS.moved (hm1214.castL (by kernel_rfl))
    have hA := hA.moved (hm1214.castL (by kernel_rfl))
    have hW := hW.moved (hm1214.castL (by kernel_rfl))
    refine sim_call 17 [.ptr 2 0, .v (Value.slice A1 l.length c1)] (by kernel_rfl) ?_
    have ez2_1215 := (hag.at_ 2 (by omega)).trans e2
    simp only [denL, LV.den, Nm.at_, ez2_1215, Nat.add_zero]
    refine Calls.mono (intsB_any (b) (s1) _ hS.bk.is hS.kg _ _ _ ((l.map Int.ofNat)) (owA hA hmA) (by omega) (by omega) (fun r hr g hg he => hAr j _ (Nat.le_refl _) hra g he r hr hg)) ?_
    rintro e1215 w1215 ⟨rfl, s2, hB2, hg2, hr2, hk2, hq2⟩
    have hwA := rl_wS hS.bk.is hA.is hAo
    have hwW := rl_wS hS.bk.is hW.is hWo
    have hR1215 := (hR1214).keptW hk2 [3, 4] (by kernel_rfl) (by intro k0 hk0; simp only [List.mem_cons, List.not_mem_nil, or_false] at hk0; rcases hk0 with rfl | rfl; (rw [hag.at_ 3 (by omega), eE]; exact hwA gA (.inl rfl)); (rw [hag.at_ 4 (by omega), eF]; exact hwW gW (.inl rfl))) (fun y hy => hS.far y (.inr (.inr (wS_bk hy)))) (fun y hy => hS.ge y (.inr (.inr (wS_bk hy))))
    have hS2 := hS.setB hR1214 hB2 hg2 hk2 hq2 (fun y hy => ⟨(hAc y (hx1 y hy)).1, (hAc y (hx1 y hy)).2.1, (hAc y (hx1 y hy)).2.2, hA.far y (hx1 y hy)⟩)
    have hAo2 := out_ne hS hAo hA.is (owA hA hmA) hq2
    have hWo2 := out_ne hS hWo hW.is (owA hA hmA) hq2
    have hA := hA.kept hk2 hwA
    have hW := hW.kept hk2 hwW
    have hS := hS2
    refine Back.of (.tup []) hR1215 rfl ?_
    refine sim_run 7 [⟨38, 1, LI (IntKind.i64.wrap ((↑j : Int) + 1)), LI ((↑j : Int) + 1)⟩] (hR1215.cast (by kernel_rfl)) (by kernel_rfl) ⟨eqi (IntWalk.i64_in _ (by omega)), trivial⟩ (fun ρ1216 w1216 hm1216 hR1216 => ?_)
    have hag0 := hag0.moved (hm1216.castL (by kernel_rfl))
    have hagE := hagE.moved (hm1216.castL (by kernel_rfl))
    have hag := hag.moved (hm1216.castL (by kernel_rfl))
    have hS2 := hS2.moved (hm1216.castL (by kernel_rfl))
    have hA := hA.moved (hm1216.castL (by kernel_rfl))
    have hW := hW.moved (hm1216.castL (by kernel_rfl))
    have hS := hS.moved (hm1216.castL (by kernel_rfl))
    
    refine sim_again (j + 1, s2) (by kernel_rfl) (by show na - (j + 1) < na - j; omega) (by kernel_rfl) (by kernel_rfl) (by kernel_rfl) hag0.ag (Rel.cast (by assumption) (by kernel_rfl)) (by kernel_rfl) (by kernel_rfl) ⟨hlt, hS.cut hag0 rfl (by kernel_rfl), hA.cut hag0 rfl (by kernel_rfl), hW.cut hag0 rfl (by kernel_rfl), hAo2, hWo2, fun j' r hj' hr g hg q hq he => ?_⟩
    have hjj : j < j' := hj'
    rcases hr2 with e | e
    · rw [e] at hq
      exact hAr j' r (by omega) hr g hg q hq he
    · rw [e] at hq
      rcases List.mem_append.1 hq with h1 | h1
      · exact hAr j' r (by omega) hr g hg q h1 he
      · rw [List.mem_singleton.1 h1] at he
        obtain ⟨h2, e3⟩ := List.getElem?_eq_some_iff.1 hra
        obtain ⟨h4, e5⟩ := List.getElem?_eq_some_iff.1 hr
        have h6 := List.pairwise_iff_getElem.1 hAp j j' h2 h4 hjj g (by rw [e3]; exact he)
        rw [e5] at h6
        exact h6 hg
  · refine sim_run 8 [] (hR4.cast (by kernel_rfl)) (by kernel_rfl) trivial (fun ρ1300 w1300 hm1300 hR1300 => ?_)
    have hagO := hagO.moved (hm1300.castL (by kernel_rfl))
    have hS := hS.moved (hm1300.castL (by kernel_rfl))
    have hA := hA.moved (hm1300.castL (by kernel_rfl))
    have hW := hW.moved (hm1300.castL (by kernel_rfl))
    have hag := hag.moved (hm1300.castL (by kernel_rfl))
    refine sim_know 192 (decide ((↑(j, s1).fst : Int) < (↑na : Int))) false (by kernel_rfl) (decide_eq_false (by omega)) ?_
    refine sim_run 1 [] (hR1300.cast (by kernel_rfl)) (by kernel_rfl) trivial (fun ρ1301 w1301 hm1301 hR1301 => ?_)
    have hagO := hagO.moved (hm1301.castL (by kernel_rfl))
    have hS := hS.moved (hm1301.castL (by kernel_rfl))
    have hA := hA.moved (hm1301.castL (by kernel_rfl))
    have hW := hW.moved (hm1301.castL (by kernel_rfl))
    have hag := hag.moved (hm1301.castL (by kernel_rfl))
    refine sim_leave (by kernel_rfl) ?_
    refine sim_run 6 [⟨14, 1, LI (IntKind.i64.wrap ((↑i : Int) + 1)), LI ((↑i : Int) + 1)⟩] (hR1301.cast (by kernel_rfl)) (by kernel_rfl) ⟨eqi (IntWalk.i64_in _ (by omega)), trivial⟩ (fun ρ1302 w1302 hm1302 hR1302 => ?_)
    have hagO := hagO.moved (hm1302.castL (by kernel_rfl))
    have hS := hS.moved (hm1302.castL (by kernel_rfl))
    have hA := hA.moved (hm1302.castL (by kernel_rfl))
    have hW := hW.moved (hm1302.castL (by kernel_rfl))
    have hag := hag.moved (hm1302.castL (by kernel_rfl))
    
    exact hfin _ _ _ qU qR s1 u (by kernel_rfl) (by kernel_rfl) (by kernel_rfl) hagO (by assumption : Rel _ _ _ _ _) (by kernel_rfl) hS rfl rfl
end Go.Proofs.YtedfbdeklepekaaGreat
