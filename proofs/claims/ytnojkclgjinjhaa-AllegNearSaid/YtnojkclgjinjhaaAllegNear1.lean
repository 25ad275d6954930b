/-
  AllegNear: for one that is told of: the instruction of its Id, the near one, how many are the party's own.
-/
import Derived.Test.YtnojkclgjinjhaaAlN
import Derived.Test.YtnojkclgjinjhaaSimO
namespace Go.Proofs.Ytnojkclgjinjhaa
open Go Go.RowKit
attribute [local irreducible] run goO goN ordGoN eqlOf eqlOper eqlOfO cellL leaveK someK nextK nextT nextOT nextOD loopBody loopRest loopK fillJ tmplOf tmplJ mergeT At AtO drawOk ordOf gateOf callC callO topOp topO idxOf appOf storeOf clearOf sliceOf calleeOf calleeO topQ idxQ newRowOf resL stepOp seek
set_option maxRecDepth 100000 in
set_option maxHeartbeats 4000000 in
theorem near_24 {Q : Exit → Act → World → Prop} {R : Ending → World → Prop} [hB : Body Try.prog Q Try.f3 R] {ρ : Nm} {w0 w : World} {party : ByteArray} {Aw : Option Addr} {n cp m c2 g2 o2 i cw B0 : Nat} {l : List In} {x : In} {near : Int} {ws : List ByteArray} {xs : List Value} {k : Nat} {c : Int} {X Y z : In} {ga oa : Nat} (hn30 : n ≤ 30) (hR : Rel [] w0 ρ [⟨x.term.cells.map .v ++ [LI x.id, LI near, .v (.slice Aw ws.length cw)], false⟩, ⟨X.cells.map .v, true⟩, ⟨Y.cells.map .v, true⟩, ⟨z.cells.map .v, false⟩] w) (hrow : Own ρ [⟨x.term.cells.map .v ++ [LI x.id, LI near, .v (.slice Aw ws.length cw)], false⟩, ⟨X.cells.map .v, true⟩, ⟨Y.cells.map .v, true⟩, ⟨z.cells.map .v, false⟩] w B0 32 15 (.slice (some ⟨g2, o2, none⟩) m c2) m xs) (_ : ρ 0 = (g2, o2 + i * 15)) (e3 : ρ 3 = (ga, oa + k * 21)) (_ : i < m) (hlt : k < n) (hz : l[k]? = some z) (hC : OwnC party l k c) (d : Nat → Value)
    (hfin : ∀ (e : Int) (c' : Cfg) (ρ' : Nm) (w' : World), OwnC party l (k + 1) e → c'.k = [] → mergeT (tmplJ Try.f3.ntmps 0 [(0, LS party), (1, .v (.slice (some ⟨ga, oa, none⟩) n cp)), (7, .v (.slice (some ⟨g2, o2, none⟩) m c2)), (8, LI i), (9, .ptr 1 0), (10, .ptr 2 0), (11, LI e), (12, LI ((k : Int) + 1))]) c'.tmps = c'.tmps → (tmplJ Try.f3.ntmps 0 [(0, LS party), (1, .v (.slice (some ⟨ga, oa, none⟩) n cp)), (7, .v (.slice (some ⟨g2, o2, none⟩) m c2)), (8, LI i), (9, .ptr 1 0), (10, .ptr 2 0), (11, LI e), (12, LI ((k : Int) + 1))]).length = c'.tmps.length → Ag 3 ρ ρ' c'.rs → Rel [] w0 ρ' c'.rs w' → c'.rs.take 3 = [⟨x.term.cells.map .v ++ [LI x.id, LI near, .v (.slice Aw ws.length cw)], false⟩, ⟨X.cells.map .v, true⟩, ⟨Y.cells.map .v, true⟩] → Own ρ' c'.rs w' B0 32 15 (.slice (some ⟨g2, o2, none⟩) m c2) m xs → At Try.prog Q c' ρ' w') :
    At Try.prog Q ⟨regK Try.f3 24, fillJ (tmplJ Try.f3.ntmps 0 [(0, LS party), (1, .v (.slice (some ⟨ga, oa, none⟩) n cp)), (7, .v (.slice (some ⟨g2, o2, none⟩) m c2)), (8, LI i), (9, .ptr 1 0), (10, .ptr 2 0), (11, LI c), (12, LI k)]) d 0, [⟨x.term.cells.map .v ++ [LI x.id, LI near, .v (.slice Aw ws.length cw)], false⟩, ⟨X.cells.map .v, true⟩, ⟨Y.cells.map .v, true⟩, ⟨z.cells.map .v, false⟩]⟩ ρ w := by
  have hCb := hC.1
  have hag := Rel.ag_ hR 4 (by kernel_rfl)
  have hag3 := Rel.ag_ hR 3 (by kernel_rfl)
  rcases Decidable.em (z.term.party = party) with hp | hp
  · rcases Decidable.em (z.state = 0) with hs | hs
    · refine sim_run 2 [] (hR.cast (by kernel_rfl)) (by kernel_rfl) trivial (fun ρ2100 w2100 hm2100 hR2100 => ?_)
      have hrow := hrow.moved (hm2100.castL (by kernel_rfl))
      have hag := hag.moved (hm2100.castL (by kernel_rfl))
      have hag3 := hag3.moved (hm2100.castL (by kernel_rfl))
      refine sim_place (.v (.slice (some ⟨ga, oa, none⟩) n cp)) n 21 k 3 0 (by kernel_rfl) (by omega) (by omega) rfl (by simp only [Nm.at_, hag.at_ 3 (by omega), e3, Nat.add_zero, Int.toNat_natCast]) ?_
      refine sim_run 6 [] (hR2100.cast (by kernel_rfl)) (by kernel_rfl) trivial (fun ρ2103 w2103 hm2103 hR2103 => ?_)
      have hrow := hrow.moved (hm2103.castL (by kernel_rfl))
      have hag := hag.moved (hm2103.castL (by kernel_rfl))
      have hag3 := hag3.moved (hm2103.castL (by kernel_rfl))
      refine sim_know 110 (z.term.party.toList == party.toList) true (by kernel_rfl) (by simp [hp]) ?_
      refine sim_run 2 [] (hR2103.cast (by kernel_rfl)) (by kernel_rfl) trivial (fun ρ2104 w2104 hm2104 hR2104 => ?_)
      have hrow := hrow.moved (hm2104.castL (by kernel_rfl))
      have hag := hag.moved (hm2104.castL (by kernel_rfl))
      have hag3 := hag3.moved (hm2104.castL (by kernel_rfl))
      refine sim_place (.v (.slice (some ⟨ga, oa, none⟩) n cp)) n 21 k 3 0 (by kernel_rfl) (by omega) (by omega) rfl (by simp only [Nm.at_, hag.at_ 3 (by omega), e3, Nat.add_zero, Int.toNat_natCast]) ?_
      refine sim_run 5 [] (hR2104.cast (by kernel_rfl)) (by kernel_rfl) trivial (fun ρ2107 w2107 hm2107 hR2107 => ?_)
      have hrow := hrow.moved (hm2107.castL (by kernel_rfl))
      have hag := hag.moved (hm2107.castL (by kernel_rfl))
      have hag3 := hag3.moved (hm2107.castL (by kernel_rfl))
      refine sim_know 117 (z.state == 0) true (by kernel_rfl) (decide_eq_true (by omega)) ?_
      refine sim_run 12 [⟨25, 1, LI (IntKind.i64.wrap (c + 1)), LI (c + 1)⟩, ⟨19, 1, LI (IntKind.i64.wrap ((↑k : Int) + 1)), LI ((↑k : Int) + 1)⟩] (hR2107.cast (by kernel_rfl)) (by kernel_rfl) ⟨eqi (IntWalk.i64_in _ (by omega)), eqi (IntWalk.i64_in _ (by omega)), trivial⟩ (fun ρ2108 w2108 hm2108 hR2108 => ?_)
      have hrow := hrow.moved (hm2108.castL (by kernel_rfl))
      have hag := hag.moved (hm2108.castL (by kernel_rfl))
      have hag3 := hag3.moved (hm2108.castL (by kernel_rfl))
      
      exact hfin (c + 1) _ _ _ (hC.yes hz (ownB_yes.2 ⟨hp, hs⟩)) (by kernel_rfl) (by kernel_rfl) (by kernel_rfl) hag3 (by assumption : Rel _ _ _ _ _) (by kernel_rfl) hrow
    · refine sim_run 2 [] (hR.cast (by kernel_rfl)) (by kernel_rfl) trivial (fun ρ2200 w2200 hm2200 hR2200 => ?_)
      have hrow := hrow.moved (hm2200.castL (by kernel_rfl))
      have hag := hag.moved (hm2200.castL (by kernel_rfl))
      have hag3 := hag3.moved (hm2200.castL (by kernel_rfl))
      refine sim_place (.v (.slice (some ⟨ga, oa, none⟩) n cp)) n 21 k 3 0 (by kernel_rfl) (by omega) (by omega) rfl (by simp only [Nm.at_, hag.at_ 3 (by omega), e3, Nat.add_zero, Int.toNat_natCast]) ?_
      refine sim_run 6 [] (hR2200.cast (by kernel_rfl)) (by kernel_rfl) trivial (fun ρ2203 w2203 hm2203 hR2203 => ?_)
      have hrow := hrow.moved (hm2203.castL (by kernel_rfl))
      have hag := hag.moved (hm2203.castL (by kernel_rfl))
      have hag3 := hag3.moved (hm2203.castL (by kernel_rfl))
      refine sim_know 110 (z.term.party.toList == party.toList) true (by kernel_rfl) (by simp [hp]) ?_
      refine sim_run 2 [] (hR2203.cast (by kernel_rfl)) (by kernel_rfl) trivial (fun ρ2204 w2204 hm2204 hR2204 => ?_)
      have hrow := hrow.moved (hm2204.castL (by kernel_rfl))
      have hag := hag.moved (hm2204.castL (by kernel_rfl))
      have hag3 := hag3.moved (hm2204.castL (by kernel_rfl))
      refine sim_place (.v (.slice (some ⟨ga, oa, none⟩) n cp)) n 21 k 3 0 (by kernel_rfl) (by omega) (by omega) rfl (by simp only [Nm.at_, hag.at_ 3 (by omega), e3, Nat.add_zero, Int.toNat_natCast]) ?_
      refine sim_run 5 [] (hR2204.cast (by kernel_rfl)) (by kernel_rfl) trivial (fun ρ2207 w2207 hm2207 hR2207 => ?_)
      have hrow := hrow.moved (hm2207.castL (by kernel_rfl))
      have hag := hag.moved (hm2207.castL (by kernel_rfl))
      have hag3 := hag3.moved (hm2207.castL (by kernel_rfl))
      refine sim_know 117 (z.state == 0) false (by kernel_rfl) (decide_eq_false (by omega)) ?_
      refine sim_run 8 [⟨19, 1, LI (IntKind.i64.wrap ((↑k : Int) + 1)), LI ((↑k : Int) + 1)⟩] (hR2207.cast (by kernel_rfl)) (by kernel_rfl) ⟨eqi (IntWalk.i64_in _ (by omega)), trivial⟩ (fun ρ2208 w2208 hm2208 hR2208 => ?_)
      have hrow := hrow.moved (hm2208.castL (by kernel_rfl))
      have hag := hag.moved (hm2208.castL (by kernel_rfl))
      have hag3 := hag3.moved (hm2208.castL (by kernel_rfl))
      
      exact hfin c _ _ _ (hC.no hz (ownB_no.2 fun h1 h2 => hs h2)) (by kernel_rfl) (by kernel_rfl) (by kernel_rfl) hag3 (by assumption : Rel _ _ _ _ _) (by kernel_rfl) hrow
  · refine sim_run 2 [] (hR.cast (by kernel_rfl)) (by kernel_rfl) trivial (fun ρ2300 w2300 hm2300 hR2300 => ?_)
    have hrow := hrow.moved (hm2300.castL (by kernel_rfl))
    have hag := hag.moved (hm2300.castL (by kernel_rfl))
    have hag3 := hag3.moved (hm2300.castL (by kernel_rfl))
    refine sim_place (.v (.slice (some ⟨ga, oa, none⟩) n cp)) n 21 k 3 0 (by kernel_rfl) (by omega) (by omega) rfl (by simp only [Nm.at_, hag.at_ 3 (by omega), e3, Nat.add_zero, Int.toNat_natCast]) ?_
    refine sim_run 6 [] (hR2300.cast (by kernel_rfl)) (by kernel_rfl) trivial (fun ρ2303 w2303 hm2303 hR2303 => ?_)
    have hrow := hrow.moved (hm2303.castL (by kernel_rfl))
    have hag := hag.moved (hm2303.castL (by kernel_rfl))
    have hag3 := hag3.moved (hm2303.castL (by kernel_rfl))
    refine sim_know 110 (z.term.party.toList == party.toList) false (by kernel_rfl) (Bool.eq_false_iff.2 fun h => hp (ba_eq h)) ?_
    refine sim_run 16 [⟨19, 1, LI (IntKind.i64.wrap ((↑k : Int) + 1)), LI ((↑k : Int) + 1)⟩] (hR2303.cast (by kernel_rfl)) (by kernel_rfl) ⟨eqi (IntWalk.i64_in _ (by omega)), trivial⟩ (fun ρ2304 w2304 hm2304 hR2304 => ?_)
    have hrow := hrow.moved (hm2304.castL (by kernel_rfl))
    have hag := hag.moved (hm2304.castL (by kernel_rfl))
    have hag3 := hag3.moved (hm2304.castL (by kernel_rfl))
    
    exact hfin c _ _ _ (hC.no hz (ownB_no.2 fun h1 h2 => hp h1)) (by kernel_rfl) (by kernel_rfl) (by kernel_rfl) hag3 (by assumption : Rel _ _ _ _ _) (by kernel_rfl) hrow
set_option maxRecDepth 100000 in
set_option maxHeartbeats 4000000 in
theorem near_own {Q : Exit → Act → World → Prop} {R : Ending → World → Prop} [hB : Body Try.prog Q Try.f3 R] {ρ : Nm} {w0 w : World} {party : ByteArray} {A Aw : Option Addr} {n cp m c2 g2 o2 i cw B0 : Nat} {l : List In} {x : In} {near : Int} {ws : List ByteArray} {xs : List Value} (hrd : Reads w0 w0.heap.size 21 A n (l.map In.cells).flatten) (hll : l.length = n) (hn30 : n ≤ 30) (hd : (l.map (·.id)).Nodup) (hR : Rel [] w0 ρ [⟨x.term.cells.map .v ++ [LI x.id, LI near, .v (.slice Aw ws.length cw)], false⟩, ⟨zeroIn.cells.map .v, true⟩, ⟨zeroIn.cells.map .v, true⟩] w) (hrow : Own ρ [⟨x.term.cells.map .v ++ [LI x.id, LI near, .v (.slice Aw ws.length cw)], false⟩, ⟨zeroIn.cells.map .v, true⟩, ⟨zeroIn.cells.map .v, true⟩] w B0 32 15 (.slice (some ⟨g2, o2, none⟩) m c2) m xs) (e0 : ρ 0 = (g2, o2 + i * 15)) (him : i < m) (d : Nat → Value)
    (hfin : ∀ (X Y : In) (c : Int) (ρ' : Nm) (w' : World) (d' : Nat → Value), (∀ z ∈ l, z.id = x.id → X = z) → (∀ z ∈ l, z.id = near → Y = z) → (c = 0 ↔ ∀ z ∈ l, ownB party z = false) → 0 ≤ c → Ag 1 ρ ρ' [⟨x.term.cells.map .v ++ [LI x.id, LI near, .v (.slice Aw ws.length cw)], false⟩, ⟨X.cells.map .v, true⟩, ⟨Y.cells.map .v, true⟩] → Rel [] w0 ρ' [⟨x.term.cells.map .v ++ [LI x.id, LI near, .v (.slice Aw ws.length cw)], false⟩, ⟨X.cells.map .v, true⟩, ⟨Y.cells.map .v, true⟩] w' → Own ρ' [⟨x.term.cells.map .v ++ [LI x.id, LI near, .v (.slice Aw ws.length cw)], false⟩, ⟨X.cells.map .v, true⟩, ⟨Y.cells.map .v, true⟩] w' B0 32 15 (.slice (some ⟨g2, o2, none⟩) m c2) m xs → At Try.prog Q ⟨regK Try.f3 26, fillJ (tmplJ Try.f3.ntmps 0 [(0, LS party), (1, .v (.slice A n cp)), (7, .v (.slice (some ⟨g2, o2, none⟩) m c2)), (8, LI i), (9, .ptr 1 0), (10, .ptr 2 0), (11, LI c)]) d' 0, [⟨x.term.cells.map .v ++ [LI x.id, LI near, .v (.slice Aw ws.length cw)], false⟩, ⟨X.cells.map .v, true⟩, ⟨Y.cells.map .v, true⟩]⟩ ρ' w') :
    At Try.prog Q ⟨regK Try.f3 16, fillJ (tmplJ Try.f3.ntmps 0 [(0, LS party), (1, .v (.slice A n cp)), (7, .v (.slice (some ⟨g2, o2, none⟩) m c2)), (8, LI i), (9, .ptr 1 0), (10, .ptr 2 0)]) d 0, [⟨x.term.cells.map .v ++ [LI x.id, LI near, .v (.slice Aw ws.length cw)], false⟩, ⟨zeroIn.cells.map .v, true⟩, ⟨zeroIn.cells.map .v, true⟩]⟩ ρ w := by
  have hag0 := Rel.ag_ hR 1 (by kernel_rfl)
  refine sim_run 8 [] (hR.cast (by kernel_rfl)) (by kernel_rfl) trivial (fun ρ100 w100 hm100 hR100 => ?_)
  have hrow := hrow.moved (hm100.castL (by kernel_rfl))
  have hag0 := hag0.moved (hm100.castL (by kernel_rfl))
  
  refine sim_loop (ι := Nat × In × In × Int) (T := []) (w0 := w0) (0, zeroIn, zeroIn, 0) [0, 1, 7, 8, 9, 10] (fun y => [(11, LI y.2.2.2), (12, LI y.1)]) (fun y => [⟨x.term.cells.map .v ++ [LI x.id, LI near, .v (.slice Aw ws.length cw)], false⟩, ⟨y.2.1.cells.map .v, true⟩, ⟨y.2.2.1.cells.map .v, true⟩]) (fun y w1 => y.1 ≤ n ∧ AtI l y.1 x.id y.2.1 ∧ AtI l y.1 near y.2.2.1 ∧ OwnC party l y.1 y.2.2.2 ∧ Own ρ100 [⟨x.term.cells.map .v ++ [LI x.id, LI near, .v (.slice Aw ws.length cw)], false⟩, ⟨y.2.1.cells.map .v, true⟩, ⟨y.2.2.1.cells.map .v, true⟩] w1 B0 32 15 (.slice (some ⟨g2, o2, none⟩) m c2) m xs) (fun y => n - y.1) (by kernel_rfl) (by kernel_rfl) ((by assumption : Rel _ _ _ _ _).cast (by kernel_rfl)) ⟨Nat.zero_le _, fun z hz => by simp at hz, fun z hz => by simp at hz, ⟨⟨Int.le_refl 0, Int.le_refl 0⟩, ⟨fun _ z hz => by simp at hz, fun _ => rfl⟩⟩, hrow.castR (by kernel_rfl)⟩ ?_
  have e0 := (hag0.at_ 0 (by omega)).trans e0
  clear hrow hR100 hm100 hR
  rintro ⟨k, X, Y, c⟩ d5 w5 hR5 ⟨hk, hX, hY, hC, hrow⟩
  dsimp only at hk hX hY hC hrow
  have hag3 := hR5.ag_ 3 (by kernel_rfl)
  by_cases hlt : k < n
  · obtain ⟨z, hz⟩ : ∃ z, l[k]? = some z := ⟨_, List.getElem?_eq_getElem (by omega)⟩
    refine sim_see (n := n) z.cells k 3 (by kernel_rfl) (by rw [List.getElem?_map, hz]; rfl) hrd (in_len2 l) (by omega) hlt (Nat.le_refl _) (by simp) hR5 (by kernel_rfl) (fun ga oa ρE eA hgT hgl hmE e3 hRE => ?_)
    subst eA
    have hrow := hrow.moved hmE
    have hag3 := hag3.moved hmE
    have e0 := (hmE.agree 0 (by show 0 < 3; omega)).trans e0
    have hag := hRE.ag_ 4 (by kernel_rfl)
    rcases Decidable.em (z.id = x.id) with hi | hi
    · rcases Decidable.em (z.id = near) with hn | hn
      · refine sim_run 8 [] (hRE.cast (by kernel_rfl)) (by kernel_rfl) trivial (fun ρ400 w400 hm400 hR400 => ?_)
        have hrow := hrow.moved (hm400.castL (by kernel_rfl))
        have hag3 := hag3.moved (hm400.castL (by kernel_rfl))
        have hag := hag.moved (hm400.castL (by kernel_rfl))
        refine sim_know 69 (decide ((↑(k, X, Y, c).fst : Int) < (↑n : Int))) true (by kernel_rfl) (decide_eq_true (by omega)) ?_
        refine sim_run 6 [] (hR400.cast (by kernel_rfl)) (by kernel_rfl) trivial (fun ρ401 w401 hm401 hR401 => ?_)
        have hrow := hrow.moved (hm401.castL (by kernel_rfl))
        have hag3 := hag3.moved (hm401.castL (by kernel_rfl))
        have hag := hag.moved (hm401.castL (by kernel_rfl))
        refine sim_draw [] (by kernel_rfl) (by kernel_rfl) hR401 (fun hR402 => ?_)
        have hrow := hrow.drew
        refine sim_ordN 2 [] hR402 (by kernel_rfl) trivial (fun ρ403 w403 hm403 hR403 => ?_)
        have hag3 := hag3.moved (hm403.castL (by kernel_rfl))
        have hag := hag.moved (hm403.castL (by kernel_rfl))
        have hrow := hrow.moved (hm403.castL (by kernel_rfl))
        refine sim_ord_index (.v (.slice (some ⟨ga, oa, none⟩) n cp)) n 21 k 3 0 (by kernel_rfl) (by omega) (by omega) rfl hR403 (by simp only [Nm.at_, hag.at_ 3 (by omega), e3, Nat.add_zero, Int.toNat_natCast]) (fun hR405 => ?_)
        refine sim_ordN 4 [] hR405 (by kernel_rfl) trivial (fun ρ406 w406 hm406 hR406 => ?_)
        have hag3 := hag3.moved (hm406.castL (by kernel_rfl))
        have hag := hag.moved (hm406.castL (by kernel_rfl))
        have hrow := hrow.moved (hm406.castL (by kernel_rfl))
        refine sim_ord_index (.v (.slice (some ⟨g2, o2, none⟩) m c2)) m 15 i 0 0 (by kernel_rfl) (by omega) (by omega) rfl hR406 (by simp only [Nm.at_, hag.at_ 0 (by omega), e0, Nat.add_zero, Int.toNat_natCast]) (fun hR407 => ?_)
        refine sim_ordN 3 [] hR407 (by kernel_rfl) trivial (fun ρ408 w408 hm408 hR408 => ?_)
        have hag3 := hag3.moved (hm408.castL (by kernel_rfl))
        have hag := hag.moved (hm408.castL (by kernel_rfl))
        have hrow := hrow.moved (hm408.castL (by kernel_rfl))
        refine sim_ord_endR hR408 (by kernel_rfl) (fun hR409 => ?_)
        refine sim_know 82 (z.id == x.id) true (by kernel_rfl) (decide_eq_true (by omega)) ?_
        refine sim_run 4 [] (hR409.cast (by kernel_rfl)) (by kernel_rfl) trivial (fun ρ410 w410 hm410 hR410 => ?_)
        have hag3 := hag3.moved (hm410.castL (by kernel_rfl))
        have hag := hag.moved (hm410.castL (by kernel_rfl))
        have hrow := hrow.moved (hm410.castL (by kernel_rfl))
        refine sim_place (.v (.slice (some ⟨ga, oa, none⟩) n cp)) n 21 k 3 0 (by kernel_rfl) (by omega) (by omega) rfl (by simp only [Nm.at_, hag.at_ 3 (by omega), e3, Nat.add_zero, Int.toNat_natCast]) ?_
        refine sim_run 5 [] (hR410.cast (by kernel_rfl)) (by kernel_rfl) trivial (fun ρ413 w413 hm413 hR413 => ?_)
        have hag3 := hag3.moved (hm413.castL (by kernel_rfl))
        have hag := hag.moved (hm413.castL (by kernel_rfl))
        have hrow := hrow.moved (hm413.castL (by kernel_rfl))
        refine sim_draw [] (by kernel_rfl) (by kernel_rfl) hR413 (fun hR414 => ?_)
        have hrow := hrow.drew
        refine sim_ordN 2 [] hR414 (by kernel_rfl) trivial (fun ρ415 w415 hm415 hR415 => ?_)
        have hag3 := hag3.moved (hm415.castL (by kernel_rfl))
        have hag := hag.moved (hm415.castL (by kernel_rfl))
        have hrow := hrow.moved (hm415.castL (by kernel_rfl))
        refine sim_ord_index (.v (.slice (some ⟨ga, oa, none⟩) n cp)) n 21 k 3 0 (by kernel_rfl) (by omega) (by omega) rfl hR415 (by simp only [Nm.at_, hag.at_ 3 (by omega), e3, Nat.add_zero, Int.toNat_natCast]) (fun hR417 => ?_)
        refine sim_ordN 4 [] hR417 (by kernel_rfl) trivial (fun ρ418 w418 hm418 hR418 => ?_)
        have hag3 := hag3.moved (hm418.castL (by kernel_rfl))
        have hag := hag.moved (hm418.castL (by kernel_rfl))
        have hrow := hrow.moved (hm418.castL (by kernel_rfl))
        refine sim_ord_index (.v (.slice (some ⟨g2, o2, none⟩) m c2)) m 15 i 0 0 (by kernel_rfl) (by omega) (by omega) rfl hR418 (by simp only [Nm.at_, hag.at_ 0 (by omega), e0, Nat.add_zero, Int.toNat_natCast]) (fun hR419 => ?_)
        refine sim_ordN 3 [] hR419 (by kernel_rfl) trivial (fun ρ420 w420 hm420 hR420 => ?_)
        have hag3 := hag3.moved (hm420.castL (by kernel_rfl))
        have hag := hag.moved (hm420.castL (by kernel_rfl))
        have hrow := hrow.moved (hm420.castL (by kernel_rfl))
        refine sim_ord_endR hR420 (by kernel_rfl) (fun hR421 => ?_)
        refine sim_know 97 (z.id == near) true (by kernel_rfl) (decide_eq_true (by omega)) ?_
        refine sim_run 4 [] (hR421.cast (by kernel_rfl)) (by kernel_rfl) trivial (fun ρ422 w422 hm422 hR422 => ?_)
        have hag3 := hag3.moved (hm422.castL (by kernel_rfl))
        have hag := hag.moved (hm422.castL (by kernel_rfl))
        have hrow := hrow.moved (hm422.castL (by kernel_rfl))
        refine sim_place (.v (.slice (some ⟨ga, oa, none⟩) n cp)) n 21 k 3 0 (by kernel_rfl) (by omega) (by omega) rfl (by simp only [Nm.at_, hag.at_ 3 (by omega), e3, Nat.add_zero, Int.toNat_natCast]) ?_
        refine sim_run 5 [] (hR422.cast (by kernel_rfl)) (by kernel_rfl) trivial (fun ρ425 w425 hm425 hR425 => ?_)
        have hag3 := hag3.moved (hm425.castL (by kernel_rfl))
        have hag := hag.moved (hm425.castL (by kernel_rfl))
        have hrow := hrow.moved (hm425.castL (by kernel_rfl))
        
        have hRn := (by assumption : Rel _ _ _ _ _).cast (rs' := [⟨x.term.cells.map .v ++ [LI x.id, LI near, .v (.slice Aw ws.length cw)], false⟩, ⟨z.cells.map .v, true⟩, ⟨z.cells.map .v, true⟩, ⟨z.cells.map .v, false⟩]) (by kernel_rfl)
        refine sim_to (regK Try.f3 24) (tmplJ Try.f3.ntmps 0 [(0, LS party), (1, .v (.slice (some ⟨ga, oa, none⟩) n cp)), (7, .v (.slice (some ⟨g2, o2, none⟩) m c2)), (8, LI i), (9, .ptr 1 0), (10, .ptr 2 0), (11, LI c), (12, LI k)]) [⟨x.term.cells.map .v ++ [LI x.id, LI near, .v (.slice Aw ws.length cw)], false⟩, ⟨z.cells.map .v, true⟩, ⟨z.cells.map .v, true⟩, ⟨z.cells.map .v, false⟩] (by kernel_rfl) (by kernel_rfl) (by kernel_rfl) (fun d6 => ?_)
        have e0 := (hag.at_ 0 (by omega)).trans e0
        have e3 := (hag.at_ 3 (by omega)).trans e3
        refine near_24 hn30 hRn (hrow.castR (by kernel_rfl)) e0 e3 him hlt hz hC d6 (fun e c' ρ' w' hC' hk' hm' hl' hag' hR' htk hrow' => ?_)
        have hag7 : Ag 3 ρ100 ρ' c'.rs := ⟨hag3.ag.trans hag'.ag (by omega), hag'.le⟩
        exact sim_again (k + 1, z, z, e) hk' (by show n - (k + 1) < n - k; omega) ((congrArg (mergeT · c'.tmps) (by kernel_rfl)).trans hm') ((congrArg List.length (by kernel_rfl)).trans hl') (by kernel_rfl) hag7.ag hR' htk (by kernel_rfl) ⟨hlt, AtI.yes hd hz hi, AtI.yes hd hz hn, hC', hrow'.cut hag7 rfl htk⟩
      · refine sim_run 8 [] (hRE.cast (by kernel_rfl)) (by kernel_rfl) trivial (fun ρ500 w500 hm500 hR500 => ?_)
        have hrow := hrow.moved (hm500.castL (by kernel_rfl))
        have hag3 := hag3.moved (hm500.castL (by kernel_rfl))
        have hag := hag.moved (hm500.castL (by kernel_rfl))
        refine sim_know 69 (decide ((↑(k, X, Y, c).fst : Int) < (↑n : Int))) true (by kernel_rfl) (decide_eq_true (by omega)) ?_
        refine sim_run 6 [] (hR500.cast (by kernel_rfl)) (by kernel_rfl) trivial (fun ρ501 w501 hm501 hR501 => ?_)
        have hrow := hrow.moved (hm501.castL (by kernel_rfl))
        have hag3 := hag3.moved (hm501.castL (by kernel_rfl))
        have hag := hag.moved (hm501.castL (by kernel_rfl))
        refine sim_draw [] (by kernel_rfl) (by kernel_rfl) hR501 (fun hR502 => ?_)
        have hrow := hrow.drew
        refine sim_ordN 2 [] hR502 (by kernel_rfl) trivial (fun ρ503 w503 hm503 hR503 => ?_)
        have hag3 := hag3.moved (hm503.castL (by kernel_rfl))
        have hag := hag.moved (hm503.castL (by kernel_rfl))
        have hrow := hrow.moved (hm503.castL (by kernel_rfl))
        refine sim_ord_index (.v (.slice (some ⟨ga, oa, none⟩) n cp)) n 21 k 3 0 (by kernel_rfl) (by omega) (by omega) rfl hR503 (by simp only [Nm.at_, hag.at_ 3 (by omega), e3, Nat.add_zero, Int.toNat_natCast]) (fun hR505 => ?_)
        refine sim_ordN 4 [] hR505 (by kernel_rfl) trivial (fun ρ506 w506 hm506 hR506 => ?_)
        have hag3 := hag3.moved (hm506.castL (by kernel_rfl))
        have hag := hag.moved (hm506.castL (by kernel_rfl))
        have hrow := hrow.moved (hm506.castL (by kernel_rfl))
        refine sim_ord_index (.v (.slice (some ⟨g2, o2, none⟩) m c2)) m 15 i 0 0 (by kernel_rfl) (by omega) (by omega) rfl hR506 (by simp only [Nm.at_, hag.at_ 0 (by omega), e0, Nat.add_zero, Int.toNat_natCast]) (fun hR507 => ?_)
        refine sim_ordN 3 [] hR507 (by kernel_rfl) trivial (fun ρ508 w508 hm508 hR508 => ?_)
        have hag3 := hag3.moved (hm508.castL (by kernel_rfl))
        have hag := hag.moved (hm508.castL (by kernel_rfl))
        have hrow := hrow.moved (hm508.castL (by kernel_rfl))
        refine sim_ord_endR hR508 (by kernel_rfl) (fun hR509 => ?_)
        refine sim_know 82 (z.id == x.id) true (by kernel_rfl) (decide_eq_true (by omega)) ?_
        refine sim_run 4 [] (hR509.cast (by kernel_rfl)) (by kernel_rfl) trivial (fun ρ510 w510 hm510 hR510 => ?_)
        have hag3 := hag3.moved (hm510.castL (by kernel_rfl))
        have hag := hag.moved (hm510.castL (by kernel_rfl))
        have hrow := hrow.moved (hm510.castL (by kernel_rfl))
        refine sim_place (.v (.slice (some ⟨ga, oa, none⟩) n cp)) n 21 k 3 0 (by kernel_rfl) (by omega) (by omega) rfl (by simp only [Nm.at_, hag.at_ 3 (by omega), e3, Nat.add_zero, Int.toNat_natCast]) ?_
        refine sim_run 5 [] (hR510.cast (by kernel_rfl)) (by kernel_rfl) trivial (fun ρ513 w513 hm513 hR513 => ?_)
        have hag3 := hag3.moved (hm513.castL (by kernel_rfl))
        have hag := hag.moved (hm513.castL (by kernel_rfl))
        have hrow := hrow.moved (hm513.castL (by kernel_rfl))
        refine sim_draw [] (by kernel_rfl) (by kernel_rfl) hR513 (fun hR514 => ?_)
        have hrow := hrow.drew
        refine sim_ordN 2 [] hR514 (by kernel_rfl) trivial (fun ρ515 w515 hm515 hR515 => ?_)
        have hag3 := hag3.moved (hm515.castL (by kernel_rfl))
        have hag := hag.moved (hm515.castL (by kernel_rfl))
        have hrow := hrow.moved (hm515.castL (by kernel_rfl))
        refine sim_ord_index (.v (.slice (some ⟨ga, oa, none⟩) n cp)) n 21 k 3 0 (by kernel_rfl) (by omega) (by omega) rfl hR515 (by simp only [Nm.at_, hag.at_ 3 (by omega), e3, Nat.add_zero, Int.toNat_natCast]) (fun hR517 => ?_)
        refine sim_ordN 4 [] hR517 (by kernel_rfl) trivial (fun ρ518 w518 hm518 hR518 => ?_)
        have hag3 := hag3.moved (hm518.castL (by kernel_rfl))
        have hag := hag.moved (hm518.castL (by kernel_rfl))
        have hrow := hrow.moved (hm518.castL (by kernel_rfl))
        refine sim_ord_index (.v (.slice (some ⟨g2, o2, none⟩) m c2)) m 15 i 0 0 (by kernel_rfl) (by omega) (by omega) rfl hR518 (by simp only [Nm.at_, hag.at_ 0 (by omega), e0, Nat.add_zero, Int.toNat_natCast]) (fun hR519 => ?_)
        refine sim_ordN 3 [] hR519 (by kernel_rfl) trivial (fun ρ520 w520 hm520 hR520 => ?_)
        have hag3 := hag3.moved (hm520.castL (by kernel_rfl))
        have hag := hag.moved (hm520.castL (by kernel_rfl))
        have hrow := hrow.moved (hm520.castL (by kernel_rfl))
        refine sim_ord_endR hR520 (by kernel_rfl) (fun hR521 => ?_)
        refine sim_know 97 (z.id == near) false (by kernel_rfl) (decide_eq_false (by omega)) ?_
        refine sim_run 4 [] (hR521.cast (by kernel_rfl)) (by kernel_rfl) trivial (fun ρ522 w522 hm522 hR522 => ?_)
        have hag3 := hag3.moved (hm522.castL (by kernel_rfl))
        have hag := hag.moved (hm522.castL (by kernel_rfl))
        have hrow := hrow.moved (hm522.castL (by kernel_rfl))
        
        have hRn := (by assumption : Rel _ _ _ _ _).cast (rs' := [⟨x.term.cells.map .v ++ [LI x.id, LI near, .v (.slice Aw ws.length cw)], false⟩, ⟨z.cells.map .v, true⟩, ⟨Y.cells.map .v, true⟩, ⟨z.cells.map .v, false⟩]) (by kernel_rfl)
        refine sim_to (regK Try.f3 24) (tmplJ Try.f3.ntmps 0 [(0, LS party), (1, .v (.slice (some ⟨ga, oa, none⟩) n cp)), (7, .v (.slice (some ⟨g2, o2, none⟩) m c2)), (8, LI i), (9, .ptr 1 0), (10, .ptr 2 0), (11, LI c), (12, LI k)]) [⟨x.term.cells.map .v ++ [LI x.id, LI near, .v (.slice Aw ws.length cw)], false⟩, ⟨z.cells.map .v, true⟩, ⟨Y.cells.map .v, true⟩, ⟨z.cells.map .v, false⟩] (by kernel_rfl) (by kernel_rfl) (by kernel_rfl) (fun d6 => ?_)
        have e0 := (hag.at_ 0 (by omega)).trans e0
        have e3 := (hag.at_ 3 (by omega)).trans e3
        refine near_24 hn30 hRn (hrow.castR (by kernel_rfl)) e0 e3 him hlt hz hC d6 (fun e c' ρ' w' hC' hk' hm' hl' hag' hR' htk hrow' => ?_)
        have hag7 : Ag 3 ρ100 ρ' c'.rs := ⟨hag3.ag.trans hag'.ag (by omega), hag'.le⟩
        exact sim_again (k + 1, z, Y, e) hk' (by show n - (k + 1) < n - k; omega) ((congrArg (mergeT · c'.tmps) (by kernel_rfl)).trans hm') ((congrArg List.length (by kernel_rfl)).trans hl') (by kernel_rfl) hag7.ag hR' htk (by kernel_rfl) ⟨hlt, AtI.yes hd hz hi, hY.no hz hn, hC', hrow'.cut hag7 rfl htk⟩
    · rcases Decidable.em (z.id = near) with hn | hn
      · refine sim_run 8 [] (hRE.cast (by kernel_rfl)) (by kernel_rfl) trivial (fun ρ600 w600 hm600 hR600 => ?_)
        have hrow := hrow.moved (hm600.castL (by kernel_rfl))
        have hag3 := hag3.moved (hm600.castL (by kernel_rfl))
        have hag := hag.moved (hm600.castL (by kernel_rfl))
        refine sim_know 69 (decide ((↑(k, X, Y, c).fst : Int) < (↑n : Int))) true (by kernel_rfl) (decide_eq_true (by omega)) ?_
        refine sim_run 6 [] (hR600.cast (by kernel_rfl)) (by kernel_rfl) trivial (fun ρ601 w601 hm601 hR601 => ?_)
        have hrow := hrow.moved (hm601.castL (by kernel_rfl))
        have hag3 := hag3.moved (hm601.castL (by kernel_rfl))
        have hag := hag.moved (hm601.castL (by kernel_rfl))
        refine sim_draw [] (by kernel_rfl) (by kernel_rfl) hR601 (fun hR602 => ?_)
        have hrow := hrow.drew
        refine sim_ordN 2 [] hR602 (by kernel_rfl) trivial (fun ρ603 w603 hm603 hR603 => ?_)
        have hag3 := hag3.moved (hm603.castL (by kernel_rfl))
        have hag := hag.moved (hm603.castL (by kernel_rfl))
        have hrow := hrow.moved (hm603.castL (by kernel_rfl))
        refine sim_ord_index (.v (.slice (some ⟨ga, oa, none⟩) n cp)) n 21 k 3 0 (by kernel_rfl) (by omega) (by omega) rfl hR603 (by simp only [Nm.at_, hag.at_ 3 (by omega), e3, Nat.add_zero, Int.toNat_natCast]) (fun hR605 => ?_)
        refine sim_ordN 4 [] hR605 (by kernel_rfl) trivial (fun ρ606 w606 hm606 hR606 => ?_)
        have hag3 := hag3.moved (hm606.castL (by kernel_rfl))
        have hag := hag.moved (hm606.castL (by kernel_rfl))
        have hrow := hrow.moved (hm606.castL (by kernel_rfl))
        refine sim_ord_index (.v (.slice (some ⟨g2, o2, none⟩) m c2)) m 15 i 0 0 (by kernel_rfl) (by omega) (by omega) rfl hR606 (by simp only [Nm.at_, hag.at_ 0 (by omega), e0, Nat.add_zero, Int.toNat_natCast]) (fun hR607 => ?_)
        refine sim_ordN 3 [] hR607 (by kernel_rfl) trivial (fun ρ608 w608 hm608 hR608 => ?_)
        have hag3 := hag3.moved (hm608.castL (by kernel_rfl))
        have hag := hag.moved (hm608.castL (by kernel_rfl))
        have hrow := hrow.moved (hm608.castL (by kernel_rfl))
        refine sim_ord_endR hR608 (by kernel_rfl) (fun hR609 => ?_)
        refine sim_know 82 (z.id == x.id) false (by kernel_rfl) (decide_eq_false (by omega)) ?_
        refine sim_run 4 [] (hR609.cast (by kernel_rfl)) (by kernel_rfl) trivial (fun ρ610 w610 hm610 hR610 => ?_)
        have hag3 := hag3.moved (hm610.castL (by kernel_rfl))
        have hag := hag.moved (hm610.castL (by kernel_rfl))
        have hrow := hrow.moved (hm610.castL (by kernel_rfl))
        refine sim_draw [] (by kernel_rfl) (by kernel_rfl) hR610 (fun hR611 => ?_)
        have hrow := hrow.drew
        refine sim_ordN 2 [] hR611 (by kernel_rfl) trivial (fun ρ612 w612 hm612 hR612 => ?_)
        have hag3 := hag3.moved (hm612.castL (by kernel_rfl))
        have hag := hag.moved (hm612.castL (by kernel_rfl))
        have hrow := hrow.moved (hm612.castL (by kernel_rfl))
        refine sim_ord_index (.v (.slice (some ⟨ga, oa, none⟩) n cp)) n 21 k 3 0 (by kernel_rfl) (by omega) (by omega) rfl hR612 (by simp only [Nm.at_, hag.at_ 3 (by omega), e3, Nat.add_zero, Int.toNat_natCast]) (fun hR614 => ?_)
        refine sim_ordN 4 [] hR614 (by kernel_rfl) trivial (fun ρ615 w615 hm615 hR615 => ?_)
        have hag3 := hag3.moved (hm615.castL (by kernel_rfl))
        have hag := hag.moved (hm615.castL (by kernel_rfl))
        have hrow := hrow.moved (hm615.castL (by kernel_rfl))
        refine sim_ord_index (.v (.slice (some ⟨g2, o2, none⟩) m c2)) m 15 i 0 0 (by kernel_rfl) (by omega) (by omega) rfl hR615 (by simp only [Nm.at_, hag.at_ 0 (by omega), e0, Nat.add_zero, Int.toNat_natCast]) (fun hR616 => ?_)
        refine sim_ordN 3 [] hR616 (by kernel_rfl) trivial (fun ρ617 w617 hm617 hR617 => ?_)
        have hag3 := hag3.moved (hm617.castL (by kernel_rfl))
        have hag := hag.moved (hm617.castL (by kernel_rfl))
        have hrow := hrow.moved (hm617.castL (by kernel_rfl))
        refine sim_ord_endR hR617 (by kernel_rfl) (fun hR618 => ?_)
        refine sim_know 97 (z.id == near) true (by kernel_rfl) (decide_eq_true (by omega)) ?_
        refine sim_run 4 [] (hR618.cast (by kernel_rfl)) (by kernel_rfl) trivial (fun ρ619 w619 hm619 hR619 => ?_)
        have hag3 := hag3.moved (hm619.castL (by kernel_rfl))
        have hag := hag.moved (hm619.castL (by kernel_rfl))
        have hrow := hrow.moved (hm619.castL (by kernel_rfl))
        refine sim_place (.v (.slice (some ⟨ga, oa, none⟩) n cp)) n 21 k 3 0 (by kernel_rfl) (by omega) (by omega) rfl (by simp only [Nm.at_, hag.at_ 3 (by omega), e3, Nat.add_zero, Int.toNat_natCast]) ?_
        refine sim_run 5 [] (hR619.cast (by kernel_rfl)) (by kernel_rfl) trivial (fun ρ622 w622 hm622 hR622 => ?_)
        have hag3 := hag3.moved (hm622.castL (by kernel_rfl))
        have hag := hag.moved (hm622.castL (by kernel_rfl))
        have hrow := hrow.moved (hm622.castL (by kernel_rfl))
        
        have hRn := (by assumption : Rel _ _ _ _ _).cast (rs' := [⟨x.term.cells.map .v ++ [LI x.id, LI near, .v (.slice Aw ws.length cw)], false⟩, ⟨X.cells.map .v, true⟩, ⟨z.cells.map .v, true⟩, ⟨z.cells.map .v, false⟩]) (by kernel_rfl)
        refine sim_to (regK Try.f3 24) (tmplJ Try.f3.ntmps 0 [(0, LS party), (1, .v (.slice (some ⟨ga, oa, none⟩) n cp)), (7, .v (.slice (some ⟨g2, o2, none⟩) m c2)), (8, LI i), (9, .ptr 1 0), (10, .ptr 2 0), (11, LI c), (12, LI k)]) [⟨x.term.cells.map .v ++ [LI x.id, LI near, .v (.slice Aw ws.length cw)], false⟩, ⟨X.cells.map .v, true⟩, ⟨z.cells.map .v, true⟩, ⟨z.cells.map .v, false⟩] (by kernel_rfl) (by kernel_rfl) (by kernel_rfl) (fun d6 => ?_)
        have e0 := (hag.at_ 0 (by omega)).trans e0
        have e3 := (hag.at_ 3 (by omega)).trans e3
        refine near_24 hn30 hRn (hrow.castR (by kernel_rfl)) e0 e3 him hlt hz hC d6 (fun e c' ρ' w' hC' hk' hm' hl' hag' hR' htk hrow' => ?_)
        have hag7 : Ag 3 ρ100 ρ' c'.rs := ⟨hag3.ag.trans hag'.ag (by omega), hag'.le⟩
        exact sim_again (k + 1, X, z, e) hk' (by show n - (k + 1) < n - k; omega) ((congrArg (mergeT · c'.tmps) (by kernel_rfl)).trans hm') ((congrArg List.length (by kernel_rfl)).trans hl') (by kernel_rfl) hag7.ag hR' htk (by kernel_rfl) ⟨hlt, hX.no hz hi, AtI.yes hd hz hn, hC', hrow'.cut hag7 rfl htk⟩
      · refine sim_run 8 [] (hRE.cast (by kernel_rfl)) (by kernel_rfl) trivial (fun ρ700 w700 hm700 hR700 => ?_)
        have hrow := hrow.moved (hm700.castL (by kernel_rfl))
        have hag3 := hag3.moved (hm700.castL (by kernel_rfl))
        have hag := hag.moved (hm700.castL (by kernel_rfl))
        refine sim_know 69 (decide ((↑(k, X, Y, c).fst : Int) < (↑n : Int))) true (by kernel_rfl) (decide_eq_true (by omega)) ?_
        refine sim_run 6 [] (hR700.cast (by kernel_rfl)) (by kernel_rfl) trivial (fun ρ701 w701 hm701 hR701 => ?_)
        have hrow := hrow.moved (hm701.castL (by kernel_rfl))
        have hag3 := hag3.moved (hm701.castL (by kernel_rfl))
        have hag := hag.moved (hm701.castL (by kernel_rfl))
        refine sim_draw [] (by kernel_rfl) (by kernel_rfl) hR701 (fun hR702 => ?_)
        have hrow := hrow.drew
        refine sim_ordN 2 [] hR702 (by kernel_rfl) trivial (fun ρ703 w703 hm703 hR703 => ?_)
        have hag3 := hag3.moved (hm703.castL (by kernel_rfl))
        have hag := hag.moved (hm703.castL (by kernel_rfl))
        have hrow := hrow.moved (hm703.castL (by kernel_rfl))
        refine sim_ord_index (.v (.slice (some ⟨ga, oa, none⟩) n cp)) n 21 k 3 0 (by kernel_rfl) (by omega) (by omega) rfl hR703 (by simp only [Nm.at_, hag.at_ 3 (by omega), e3, Nat.add_zero, Int.toNat_natCast]) (fun hR705 => ?_)
        refine sim_ordN 4 [] hR705 (by kernel_rfl) trivial (fun ρ706 w706 hm706 hR706 => ?_)
        have hag3 := hag3.moved (hm706.castL (by kernel_rfl))
        have hag := hag.moved (hm706.castL (by kernel_rfl))
        have hrow := hrow.moved (hm706.castL (by kernel_rfl))
        refine sim_ord_index (.v (.slice (some ⟨g2, o2, none⟩) m c2)) m 15 i 0 0 (by kernel_rfl) (by omega) (by omega) rfl hR706 (by simp only [Nm.at_, hag.at_ 0 (by omega), e0, Nat.add_zero, Int.toNat_natCast]) (fun hR707 => ?_)
        refine sim_ordN 3 [] hR707 (by kernel_rfl) trivial (fun ρ708 w708 hm708 hR708 => ?_)
        have hag3 := hag3.moved (hm708.castL (by kernel_rfl))
        have hag := hag.moved (hm708.castL (by kernel_rfl))
        have hrow := hrow.moved (hm708.castL (by kernel_rfl))
        refine sim_ord_endR hR708 (by kernel_rfl) (fun hR709 => ?_)
        refine sim_know 82 (z.id == x.id) false (by kernel_rfl) (decide_eq_false (by omega)) ?_
        refine sim_run 4 [] (hR709.cast (by kernel_rfl)) (by kernel_rfl) trivial (fun ρ710 w710 hm710 hR710 => ?_)
        have hag3 := hag3.moved (hm710.castL (by kernel_rfl))
        have hag := hag.moved (hm710.castL (by kernel_rfl))
        have hrow := hrow.moved (hm710.castL (by kernel_rfl))
        refine sim_draw [] (by kernel_rfl) (by kernel_rfl) hR710 (fun hR711 => ?_)
        have hrow := hrow.drew
        refine sim_ordN 2 [] hR711 (by kernel_rfl) trivial (fun ρ712 w712 hm712 hR712 => ?_)
        have hag3 := hag3.moved (hm712.castL (by kernel_rfl))
        have hag := hag.moved (hm712.castL (by kernel_rfl))
        have hrow := hrow.moved (hm712.castL (by kernel_rfl))
        refine sim_ord_index (.v (.slice (some ⟨ga, oa, none⟩) n cp)) n 21 k 3 0 (by kernel_rfl) (by omega) (by omega) rfl hR712 (by simp only [Nm.at_, hag.at_ 3 (by omega), e3, Nat.add_zero, Int.toNat_natCast]) (fun hR714 => ?_)
        refine sim_ordN 4 [] hR714 (by kernel_rfl) trivial (fun ρ715 w715 hm715 hR715 => ?_)
        have hag3 := hag3.moved (hm715.castL (by kernel_rfl))
        have hag := hag.moved (hm715.castL (by kernel_rfl))
        have hrow := hrow.moved (hm715.castL (by kernel_rfl))
        refine sim_ord_index (.v (.slice (some ⟨g2, o2, none⟩) m c2)) m 15 i 0 0 (by kernel_rfl) (by omega) (by omega) rfl hR715 (by simp only [Nm.at_, hag.at_ 0 (by omega), e0, Nat.add_zero, Int.toNat_natCast]) (fun hR716 => ?_)
        refine sim_ordN 3 [] hR716 (by kernel_rfl) trivial (fun ρ717 w717 hm717 hR717 => ?_)
        have hag3 := hag3.moved (hm717.castL (by kernel_rfl))
        have hag := hag.moved (hm717.castL (by kernel_rfl))
        have hrow := hrow.moved (hm717.castL (by kernel_rfl))
        refine sim_ord_endR hR717 (by kernel_rfl) (fun hR718 => ?_)
        refine sim_know 97 (z.id == near) false (by kernel_rfl) (decide_eq_false (by omega)) ?_
        refine sim_run 4 [] (hR718.cast (by kernel_rfl)) (by kernel_rfl) trivial (fun ρ719 w719 hm719 hR719 => ?_)
        have hag3 := hag3.moved (hm719.castL (by kernel_rfl))
        have hag := hag.moved (hm719.castL (by kernel_rfl))
        have hrow := hrow.moved (hm719.castL (by kernel_rfl))
        
        have hRn := (by assumption : Rel _ _ _ _ _).cast (rs' := [⟨x.term.cells.map .v ++ [LI x.id, LI near, .v (.slice Aw ws.length cw)], false⟩, ⟨X.cells.map .v, true⟩, ⟨Y.cells.map .v, true⟩, ⟨z.cells.map .v, false⟩]) (by kernel_rfl)
        refine sim_to (regK Try.f3 24) (tmplJ Try.f3.ntmps 0 [(0, LS party), (1, .v (.slice (some ⟨ga, oa, none⟩) n cp)), (7, .v (.slice (some ⟨g2, o2, none⟩) m c2)), (8, LI i), (9, .ptr 1 0), (10, .ptr 2 0), (11, LI c), (12, LI k)]) [⟨x.term.cells.map .v ++ [LI x.id, LI near, .v (.slice Aw ws.length cw)], false⟩, ⟨X.cells.map .v, true⟩, ⟨Y.cells.map .v, true⟩, ⟨z.cells.map .v, false⟩] (by kernel_rfl) (by kernel_rfl) (by kernel_rfl) (fun d6 => ?_)
        have e0 := (hag.at_ 0 (by omega)).trans e0
        have e3 := (hag.at_ 3 (by omega)).trans e3
        refine near_24 hn30 hRn (hrow.castR (by kernel_rfl)) e0 e3 him hlt hz hC d6 (fun e c' ρ' w' hC' hk' hm' hl' hag' hR' htk hrow' => ?_)
        have hag7 : Ag 3 ρ100 ρ' c'.rs := ⟨hag3.ag.trans hag'.ag (by omega), hag'.le⟩
        exact sim_again (k + 1, X, Y, e) hk' (by show n - (k + 1) < n - k; omega) ((congrArg (mergeT · c'.tmps) (by kernel_rfl)).trans hm') ((congrArg List.length (by kernel_rfl)).trans hl') (by kernel_rfl) hag7.ag hR' htk (by kernel_rfl) ⟨hlt, hX.no hz hi, hY.no hz hn, hC', hrow'.cut hag7 rfl htk⟩
  · have hkn : k = l.length := by omega
    refine sim_run 8 [] (hR5.cast (by kernel_rfl)) (by kernel_rfl) trivial (fun ρ300 w300 hm300 hR300 => ?_)
    have hrow := hrow.moved (hm300.castL (by kernel_rfl))
    have hag3 := hag3.moved (hm300.castL (by kernel_rfl))
    refine sim_know 69 (decide ((↑(k, X, Y, c).fst : Int) < (↑n : Int))) false (by kernel_rfl) (decide_eq_false (by omega)) ?_
    refine sim_run 1 [] (hR300.cast (by kernel_rfl)) (by kernel_rfl) trivial (fun ρ301 w301 hm301 hR301 => ?_)
    have hrow := hrow.moved (hm301.castL (by kernel_rfl))
    have hag3 := hag3.moved (hm301.castL (by kernel_rfl))
    refine sim_leave (by kernel_rfl) ?_
    refine sim_run 2 [] (hR301.cast (by kernel_rfl)) (by kernel_rfl) trivial (fun ρ302 w302 hm302 hR302 => ?_)
    have hrow := hrow.moved (hm302.castL (by kernel_rfl))
    have hag3 := hag3.moved (hm302.castL (by kernel_rfl))
    
    have hfX : ∀ z ∈ l, z.id = x.id → X = z := fun z hz => hX z (by rw [hkn, List.take_length]; exact hz)
    have hfY : ∀ z ∈ l, z.id = near → Y = z := fun z hz => hY z (by rw [hkn, List.take_length]; exact hz)
    have hfC : c = 0 ↔ ∀ z ∈ l, ownB party z = false := by have := hC.2; rw [hkn, List.take_length] at this; exact this
    refine sim_to (regK Try.f3 26) (tmplJ Try.f3.ntmps 0 [(0, LS party), (1, .v (.slice A n cp)), (7, .v (.slice (some ⟨g2, o2, none⟩) m c2)), (8, LI i), (9, .ptr 1 0), (10, .ptr 2 0), (11, LI c)]) [⟨x.term.cells.map .v ++ [LI x.id, LI near, .v (.slice Aw ws.length cw)], false⟩, ⟨X.cells.map .v, true⟩, ⟨Y.cells.map .v, true⟩] (by kernel_rfl) (by kernel_rfl) (by kernel_rfl) (fun d9 => ?_)
    exact hfin X Y c _ _ d9 hfX hfY hfC hC.1.1 ⟨hag0.ag.trans hag3.ag (by decide), by show 1 ≤ 3; decide⟩ ((by assumption : Rel _ _ _ _ _).cast (by kernel_rfl)) (hrow.castR (by kernel_rfl))
end Go.Proofs.Ytnojkclgjinjhaa
