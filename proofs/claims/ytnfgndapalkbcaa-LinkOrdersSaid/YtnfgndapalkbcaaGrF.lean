/-
  link.circle.
-/
import Derived.Test.YtnfgndapalkbcaaGrAE
import Derived.Test.YtnfgndapalkbcaaSlLk
namespace Go.Proofs.Ytnfgndapalkbcaa
open Go Go.RowKit
theorem lk_one (l : List Lk) : ∀ v ∈ lkV l, v.oneCell' = true := by
  intro v hv
  obtain ⟨c, hc, hv⟩ := List.mem_flatten.1 hv
  obtain ⟨x, _, rfl⟩ := List.mem_map.1 hc
  simp only [Lk.cells, List.mem_cons, List.not_mem_nil, or_false] at hv
  rcases hv with rfl | rfl | rfl <;> rfl
theorem lkV_append (a b : List Lk) : lkV (a ++ b) = lkV a ++ lkV b := by
  unfold lkV
  rw [List.map_append, List.flatten_append]
theorem rd_two {w : World} {b n c : Nat} {A : Option Addr} {a d : List Lk} (h : w.ownsRow b 30 3 (.slice A n c) n (lkV a ++ lkV d)) : Reads w w.heap.size 3 A n (lkV (a ++ d)) := by
  rw [lkV_append]
  exact Reads.of_own h
theorem full_ne_len (u : List Nat) (ls : List Lk) : ((((Uf.orderM u ls).length : Nat) : Int) != (((Uf.classes u).length : Nat) : Int)) = !Uf.fullB u ls := by
  unfold Uf.fullB
  rw [Uf.classes_length]
  by_cases h : (Uf.orderM u ls).length = (Uf.heads u).length
  · rw [h]
    simp
  · have h2 : ¬ (((Uf.orderM u ls).length : Nat) : Int) = (((Uf.heads u).length : Nat) : Int) := by omega
    rw [decide_eq_false h, bne_iff_ne.2 h2]
    rfl
attribute [local irreducible] run goO leaveK someK nextK nextT nextOT nextOD loopBody loopRest loopK fillJ tmplOf tmplJ mergeT At AtO drawOk ordOf gateOf callC callO topOp topO idxOf appOf storeOf clearOf sliceOf calleeOf calleeO topQ idxQ newRowOf resL stepOp seek
set_option maxRecDepth 100000 in
set_option maxHeartbeats 4000000 in
theorem circle_any (q : GrP) (u : List Nat) (ls : List Lk) (A : Option Addr) (n cp B : Nat) (l : List Lk) (w : World) (h : GrV q u ls w) (hg : Uf.Good u) (hu : u.length ≤ 1000) (hls : Uf.InL u.length ls) (hlls : ls.length ≤ 10000) (hl : Reads w B 3 A n (lkV l)) (hB : B ≤ w.heap.size) (hn : n ≤ 10000) (hin : Uf.InL u.length l) :
    Calls Try.prog 42 #[.pointer (some ⟨q.b, 0, none⟩), .slice A n cp] w fun e w' => e = .returned (.bool (!Uf.fullB (Uf.joinedM u l) (ls ++ l))) ∧ Below w.heap.size w w' := by
  have hll := lkV_num hl
  obtain ⟨ρ, e0, hR⟩ := h.open_ false [] (by simp)
  have hs := h.sta (ρ := ρ) (rs := [⟨(q.cells ls.length).map .v, false⟩]) (by kernel_rfl)
  refine sim_enter Try.func42 ρ [.ptr 0 0, .v (.slice A n cp)] [⟨(q.cells ls.length).map .v, false⟩] (by kernel_rfl) (by simp only [denL, LV.den, Nm.at_, e0]) ?_
  have hag := hR.ag_ 1 (by kernel_rfl)
  have hgj := Uf.joinedM_good hg hin
  have hlj := Uf.joinedM_len u l
  have hinj : Uf.InL (Uf.joinedM u l).length (ls ++ l) := by rw [hlj]; exact hls.append hin
  refine sim_run 8 [] (hR.cast (by kernel_rfl)) (by kernel_rfl) trivial (fun ρ100 w100 hm100 hR100 => ?_)
  have hs := hs.moved (hm100.castL (by kernel_rfl))
  have hag := hag.moved (hm100.castL (by kernel_rfl))
  refine sim_call 61 [.ptr 0 0, .v (Value.slice A n cp)] (by kernel_rfl) ?_
  have ez0_101 := (hag.at_ 0 (by omega)).trans e0
  simp only [denL, LV.den, Nm.at_, ez0_101, Nat.add_zero]
  refine Calls.mono (joined_any _ _ _ (A) (n) (cp) (B) (l) _ hs.is (by assumption) (by assumption) (hl.belowW (hR100).toBelow hB) (Nat.le_trans hB (hR100).keeps.size) (by omega) (by assumption)) ?_
  rintro e101 w101 ⟨bj, gj, Aj, cj, rfl, huj101, hbj, hgj2, hb101⟩
  have hj := Sta.new (S := ufS bj gj) (V := UfW bj gj (Uf.joinedM u l) Aj cj) (hR100) huj101 (fun x hx => hx.elim (fun e => e ▸ hbj) (fun e => e ▸ hgj2)) (fun x hx => hx.elim (fun e => e ▸ huj101.lt.1) (fun e => e ▸ huj101.lt.2)) UfW.same
  have hR101 := (hR100).below hb101
  have hs := hs.below hb101
  refine Back.of (.v (Value.pointer (some (Addr.mk bj 0 none)))) hR101 rfl ?_
  refine sim_run 11 [] (hR101.cast (by kernel_rfl)) (by kernel_rfl) trivial (fun ρ102 w102 hm102 hR102 => ?_)
  have hag := hag.moved (hm102.castL (by kernel_rfl))
  have hj := hj.moved (hm102.castL (by kernel_rfl))
  have hs := hs.moved (hm102.castL (by kernel_rfl))
  refine sim_call 62 [.slc 1 0 2 2] (by kernel_rfl) ?_
  refine Calls.mono (concatLk_any _ _ (q.L) (A) (ls.length) (n) (q.cl) (cp) _ (B) (lkV ls) (lkV l) _ (⟨Rel.at_cell (by assumption : Rel _ _ _ _ _) 1 0 (.v (.slice q.L ls.length q.cl)) (by kernel_rfl), Rel.at_cell (by assumption : Rel _ _ _ _ _) 1 1 (.v (.slice A n cp)) (by kernel_rfl)⟩) ((Reads.of_own hs.is.own)) ((hl.belowW ((by assumption : Rel _ _ _ _ _)).toBelow hB)) (Nat.le_refl _) ((Nat.le_trans hB ((by assumption : Rel _ _ _ _ _)).keeps.size)) ((by omega)) ((by omega)) ((lk_one ls)) ((lk_one l))) ?_
  rintro e103 w103 ⟨A3, c3, rfl, ho3, hb103⟩
  have hown := Own.start (hR102) ho3
  have hR103 := (hR102).below hb103
  have hj := hj.below hb103
  have hs := hs.below hb103
  refine Back.of (.v (.slice A3 (ls.length + n) c3)) hR103 rfl ?_
  refine sim_call 35 [.v (Value.pointer (some (Addr.mk bj 0 none))), .v (Value.slice A3 (ls.length + n) c3)] (by kernel_rfl) ?_
  refine Calls.mono (order_any _ (gj) (cj) (Aj) (Uf.joinedM u l) (A3) (ls.length + n) (c3) _ (ls ++ l) _ (hj.is) (hgj) ((by omega)) ((rd_two hown.own)) (Nat.le_refl _) ((by omega)) (hinj)) ?_
  rintro e104 w104 ⟨L4, c4, rfl, hr4, hb104⟩
  have hR104 := (hR103).below hb104
  have hown := hown.below hb104
  have hj := hj.below hb104
  have hs := hs.below hb104
  refine Back.of (.v (.slice L4 (Uf.orderM (Uf.joinedM u l) (ls ++ l)).length c4)) hR104 rfl ?_
  refine sim_run 2 [] (hR104.cast (by kernel_rfl)) (by kernel_rfl) trivial (fun ρ105 w105 hm105 hR105 => ?_)
  have hag := hag.moved (hm105.castL (by kernel_rfl))
  have hown := hown.moved (hm105.castL (by kernel_rfl))
  have hj := hj.moved (hm105.castL (by kernel_rfl))
  have hs := hs.moved (hm105.castL (by kernel_rfl))
  refine sim_call 58 [.v (Value.pointer (some (Addr.mk bj 0 none)))] (by kernel_rfl) ?_
  refine Calls.mono (ufClasses_b (hj.is) (hgj) ((by omega))) ?_
  rintro e106 w106 ⟨L5, c5, rfl, hr5, hb106⟩
  have hR106 := (hR105).below hb106
  have hown := hown.below hb106
  have hj := hj.below hb106
  have hs := hs.below hb106
  refine Back.of (.v (.slice L5 (Uf.classes (Uf.joinedM u l)).length c5)) hR106 rfl ?_
  refine sim_run 4 [] (hR106.cast (by kernel_rfl)) (by kernel_rfl) trivial (fun ρ107 w107 hm107 hR107 => ?_)
  have hag := hag.moved (hm107.castL (by kernel_rfl))
  have hown := hown.moved (hm107.castL (by kernel_rfl))
  have hj := hj.moved (hm107.castL (by kernel_rfl))
  have hs := hs.moved (hm107.castL (by kernel_rfl))
  refine sim_ret (LB ((↑(Uf.orderM (Uf.joinedM u l) (ls ++ l)).length : Int) != (↑(Uf.classes (Uf.joinedM u l)).length : Int))) hR107 (by kernel_rfl) (by kernel_rfl) ?_
  
  rw [← full_ne_len]
  exact ⟨rfl, (by assumption : Rel _ _ _ _ _).toBelow⟩
end Go.Proofs.Ytnfgndapalkbcaa
