/-
  link.circle.
  link.Try: what Add would answer.
  link.Add: links are added, all or none.
  link.New, Links, Order; of a nil graph.
-/
import Derived.Test.YtnfgndapalkbcaaGrAE
import Derived.Test.YtnfgndapalkbcaaSlLk
import Derived.Test.YtnfgndapalkbcaaFnLk
namespace Go.Proofs.Ytnfgndapalkbcaa
section
open Go Go.RowKit
theorem lk_one (l : List Lk) : ∀ v ∈ lkV l, v.oneCell' = true := by
  intro v hv
  obtain ⟨c, hc, hv⟩ := List.mem_flatten.1 hv
  obtain ⟨x, _, rfl⟩ := List.mem_map.1 hc
  simp only [Lk.cells, List.mem_cons, List.not_mem_nil, or_false] at hv
  rcases hv with rfl | rfl | rfl <;> rfl
theorem lkV_append (a b : List Lk) : lkV (a ++ b) = lkV a ++ lkV b := by
  unfold lkV
  rw [List.map_append, List.flatten_append]
theorem rd_two {w : World} {b n c : Nat} {A : Option Addr} {a d : List Lk} (h : w.ownsRow b 30 3 (.slice A n c) n (lkV a ++ lkV d)) : Reads w w.heap.size 3 A n (lkV (a ++ d)) := by
  rw [lkV_append]
  exact Reads.of_own h
theorem full_ne_len (u : List Nat) (ls : List Lk) : ((((Uf.orderM u ls).length : Nat) : Int) != (((Uf.classes u).length : Nat) : Int)) = !Uf.fullB u ls := by
  unfold Uf.fullB
  rw [Uf.classes_length]
  by_cases h : (Uf.orderM u ls).length = (Uf.heads u).length
  · rw [h]
    simp
  · have h2 : ¬ (((Uf.orderM u ls).length : Nat) : Int) = (((Uf.heads u).length : Nat) : Int) := by omega
    rw [decide_eq_false h, bne_iff_ne.2 h2]
    rfl
attribute [local irreducible] run goO leaveK someK nextK nextT nextOT nextOD loopBody loopRest loopK fillJ tmplOf tmplJ mergeT At AtO drawOk ordOf gateOf callC callO topOp topO idxOf appOf storeOf clearOf sliceOf calleeOf calleeO topQ idxQ newRowOf resL stepOp seek
set_option maxRecDepth 100000 in
set_option maxHeartbeats 4000000 in
theorem circle_any (q : GrP) (u : List Nat) (ls : List Lk) (A : Option Addr) (n cp B : Nat) (l : List Lk) (w : World) (h : GrV q u ls w) (hg : Uf.Good u) (hu : u.length ≤ 1000) (hls : Uf.InL u.length ls) (hlls : ls.length ≤ 10000) (hl : Reads w B 3 A n (lkV l)) (hB : B ≤ w.heap.size) (hn : n ≤ 10000) (hin : Uf.InL u.length l) :
    Calls Try.prog 42 #[.pointer (some ⟨q.b, 0, none⟩), .slice A n cp] w fun e w' => e = .returned (.bool (!Uf.fullB (Uf.joinedM u l) (ls ++ l))) ∧ Below w.heap.size w w' := by
  have hll := lkV_num hl
  obtain ⟨ρ, e0, hR⟩ := h.open_ false [] (by simp)
  have hs := h.sta (ρ := ρ) (rs := [⟨(q.cells ls.length).map .v, false⟩]) (by kernel_rfl)
  refine sim_enter Try.func42 ρ [.ptr 0 0, .v (.slice A n cp)] [⟨(q.cells ls.length).map .v, false⟩] (by kernel_rfl) (by simp only [denL, LV.den, Nm.at_, e0]) ?_
  have hag := hR.ag_ 1 (by kernel_rfl)
  have hgj := Uf.joinedM_good hg hin
  have hlj := Uf.joinedM_len u l
  have hinj : Uf.InL (Uf.joinedM u l).length (ls ++ l) := by rw [hlj]; exact hls.append hin
  refine sim_run 8 [] (hR.cast (by kernel_rfl)) (by kernel_rfl) trivial (fun ρ100 w100 hm100 hR100 => ?_)
  have hs := hs.moved (hm100.castL (by kernel_rfl))
  have hag := hag.moved (hm100.castL (by kernel_rfl))
  refine sim_call 61 [.ptr 0 0, .v (Value.slice A n cp)] (by kernel_rfl) ?_
  have ez0_101 := (hag.at_ 0 (by omega)).trans e0
  simp only [denL, LV.den, Nm.at_, ez0_101, Nat.add_zero]
  refine Calls.mono (joined_any _ _ _ (A) (n) (cp) (B) (l) _ hs.is (by assumption) (by assumption) (hl.belowW (hR100).toBelow hB) (Nat.le_trans hB (hR100).keeps.size) (by omega) (by assumption)) ?_
  rintro e101 w101 ⟨bj, gj, Aj, cj, rfl, huj101, hbj, hgj2, hb101⟩
  have hj := Sta.new (S := ufS bj gj) (V := UfW bj gj (Uf.joinedM u l) Aj cj) (hR100) huj101 (fun x hx => hx.elim (fun e => e ▸ hbj) (fun e => e ▸ hgj2)) (fun x hx => hx.elim (fun e => e ▸ huj101.lt.1) (fun e => e ▸ huj101.lt.2)) UfW.same
  have hR101 := (hR100).below hb101
  have hs := hs.below hb101
  refine Back.of (.v (Value.pointer (some (Addr.mk bj 0 none)))) hR101 rfl ?_
  refine sim_run 11 [] (hR101.cast (by kernel_rfl)) (by kernel_rfl) trivial (fun ρ102 w102 hm102 hR102 => ?_)
  have hag := hag.moved (hm102.castL (by kernel_rfl))
  have hj := hj.moved (hm102.castL (by kernel_rfl))
  have hs := hs.moved (hm102.castL (by kernel_rfl))
  refine sim_call 62 [.slc 1 0 2 2] (by kernel_rfl) ?_
  refine Calls.mono (concatLk_any _ _ (q.L) (A) (ls.length) (n) (q.cl) (cp) _ (B) (lkV ls) (lkV l) _ (⟨Rel.at_cell (by assumption : Rel _ _ _ _ _) 1 0 (.v (.slice q.L ls.length q.cl)) (by kernel_rfl), Rel.at_cell (by assumption : Rel _ _ _ _ _) 1 1 (.v (.slice A n cp)) (by kernel_rfl)⟩) ((Reads.of_own hs.is.own)) ((hl.belowW ((by assumption : Rel _ _ _ _ _)).toBelow hB)) (Nat.le_refl _) ((Nat.le_trans hB ((by assumption : Rel _ _ _ _ _)).keeps.size)) ((by omega)) ((by omega)) ((lk_one ls)) ((lk_one l))) ?_
  rintro e103 w103 ⟨A3, c3, rfl, ho3, hb103⟩
  have hown := Own.start (hR102) ho3
  have hR103 := (hR102).below hb103
  have hj := hj.below hb103
  have hs := hs.below hb103
  refine Back.of (.v (.slice A3 (ls.length + n) c3)) hR103 rfl ?_
  refine sim_call 35 [.v (Value.pointer (some (Addr.mk bj 0 none))), .v (Value.slice A3 (ls.length + n) c3)] (by kernel_rfl) ?_
  refine Calls.mono (order_any _ (gj) (cj) (Aj) (Uf.joinedM u l) (A3) (ls.length + n) (c3) _ (ls ++ l) _ (hj.is) (hgj) ((by omega)) ((rd_two hown.own)) (Nat.le_refl _) ((by omega)) (hinj)) ?_
  rintro e104 w104 ⟨L4, c4, rfl, hr4, hb104⟩
  have hR104 := (hR103).below hb104
  have hown := hown.below hb104
  have hj := hj.below hb104
  have hs := hs.below hb104
  refine Back.of (.v (.slice L4 (Uf.orderM (Uf.joinedM u l) (ls ++ l)).length c4)) hR104 rfl ?_
  refine sim_run 2 [] (hR104.cast (by kernel_rfl)) (by kernel_rfl) trivial (fun ρ105 w105 hm105 hR105 => ?_)
  have hag := hag.moved (hm105.castL (by kernel_rfl))
  have hown := hown.moved (hm105.castL (by kernel_rfl))
  have hj := hj.moved (hm105.castL (by kernel_rfl))
  have hs := hs.moved (hm105.castL (by kernel_rfl))
  refine sim_call 58 [.v (Value.pointer (some (Addr.mk bj 0 none)))] (by kernel_rfl) ?_
  refine Calls.mono (ufClasses_b (hj.is) (hgj) ((by omega))) ?_
  rintro e106 w106 ⟨L5, c5, rfl, hr5, hb106⟩
  have hR106 := (hR105).below hb106
  have hown := hown.below hb106
  have hj := hj.below hb106
  have hs := hs.below hb106
  refine Back.of (.v (.slice L5 (Uf.classes (Uf.joinedM u l)).length c5)) hR106 rfl ?_
  refine sim_run 4 [] (hR106.cast (by kernel_rfl)) (by kernel_rfl) trivial (fun ρ107 w107 hm107 hR107 => ?_)
  have hag := hag.moved (hm107.castL (by kernel_rfl))
  have hown := hown.moved (hm107.castL (by kernel_rfl))
  have hj := hj.moved (hm107.castL (by kernel_rfl))
  have hs := hs.moved (hm107.castL (by kernel_rfl))
  refine sim_ret (LB ((↑(Uf.orderM (Uf.joinedM u l) (ls ++ l)).length : Int) != (↑(Uf.classes (Uf.joinedM u l)).length : Int))) hR107 (by kernel_rfl) (by kernel_rfl) ?_
  
  rw [← full_ne_len]
  exact ⟨rfl, (by assumption : Rel _ _ _ _ _).toBelow⟩
end

section
open Go Go.RowKit
theorem is_enters : Enters Try.prog 37 := ⟨_, Try.func37, by kernel_rfl, by kernel_rfl⟩
theorem out_enters : Enters Try.prog 40 := ⟨_, Try.func40, by kernel_rfl, by kernel_rfl⟩
theorem bad_enters : Enters Try.prog 41 := ⟨_, Try.func41, by kernel_rfl, by kernel_rfl⟩
def outLB (n : Nat) (x : Lk) : Bool := !(inL n x.src) || !(inL n x.dst)
def badB (x : Lk) : Bool := (!(decide (x.kind = 1)) && !(decide (x.kind = 2))) || decide (x.src = x.dst)
attribute [local irreducible] run goO leaveK someK nextK nextT nextOT nextOD loopBody loopRest loopK fillJ tmplOf tmplJ mergeT At AtO drawOk ordOf gateOf callC callO topOp topO idxOf appOf storeOf clearOf sliceOf calleeOf calleeO topQ idxQ newRowOf resL stepOp seek
set_option maxRecDepth 100000 in
set_option maxHeartbeats 4000000 in
theorem isG_any (q : GrP) (u : List Nat) (ls : List Lk) (gx ox : Nat) (i : Int) (w : World) (h : GrV q u ls w) (_ : u.length ≤ 1000) (hc : w.cell? ⟨gx, ox, none⟩ = some (.pointer (some ⟨q.b, 0, none⟩))) :
    Calls Try.prog 37 #[.int .i64 i, .pointer (some ⟨gx, ox + 0, none⟩)] w fun e w' => e = .returned (.bool (inL u.length i)) ∧ Below w.heap.size w w' := by
  obtain ⟨ρ1, e0, hR1⟩ := h.open_ false [] (by simp)
  obtain ⟨ρ, a2, e1, hR⟩ := hR1.open_ (by kernel_rfl) gx ox [.ptr 0 0] (by kernel_rfl) false (World.block_lt_of_cell? _ _ hc) (fun j x hx => by
    match j, hx with
    | 0, hx =>
      simp only [List.getElem?_cons_zero, Option.some.injEq] at hx
      subst hx
      simp only [LV.den, Nm.at_, e0]
      exact hc
    | j + 1, hx => simp at hx) (fun h => by cases h) (fun n r hn hw he => by
    rcases hw with hw | hw
    · cases hw
    · exact (noW1 (ρ := ρ1) ⟨n, r, hn, hw, he⟩).elim)
  have e1 : ρ 1 = (gx, ox) := e1
  have e0 := (a2 0 (by show 0 < 1; omega)).trans e0
  have hs := h.sta (ρ := ρ) (rs := [⟨(q.cells ls.length).map .v, false⟩, ⟨[.ptr 0 0], false⟩]) (by kernel_rfl)
  refine sim_enter Try.func37 ρ [LI i, .ptr 1 0] [⟨(q.cells ls.length).map .v, false⟩, ⟨[.ptr 0 0], false⟩] (by kernel_rfl) (by simp only [denL, LV.den, Nm.at_, e1]) ?_
  have hR := hR.cast rfl
  by_cases h1 : 1 ≤ i
  · refine sim_run 9 [] (hR.cast (by kernel_rfl)) (by kernel_rfl) trivial (fun ρ100 w100 hm100 hR100 => ?_)
    have hs := hs.moved (hm100.castL (by kernel_rfl))
    refine sim_know 6 (decide (i ≥ 1)) true (by kernel_rfl) (decide_eq_true (by omega)) ?_
    refine sim_run 5 [] (hR100.cast (by kernel_rfl)) (by kernel_rfl) trivial (fun ρ101 w101 hm101 hR101 => ?_)
    have hs := hs.moved (hm101.castL (by kernel_rfl))
    refine sim_call 38 [.v (Value.pointer (some (Addr.mk q.pb 0 none)))] (by kernel_rfl) ?_
    refine Calls.mono (ufLen_b hs.is.uf) ?_
    rintro e102 w102 ⟨rfl, hb102⟩
    have hR102 := hR101.below hb102
    have hs := hs.below hb102
    refine Back.of (LI ((↑u.length : Int))) hR102 rfl ?_
    refine sim_run 4 [] (hR102.cast (by kernel_rfl)) (by kernel_rfl) trivial (fun ρ103 w103 hm103 hR103 => ?_)
    have hs := hs.moved (hm103.castL (by kernel_rfl))
    refine sim_ret (LB (decide (i ≤ (↑u.length : Int)))) hR103 (by kernel_rfl) (by kernel_rfl) ?_
    
    exact ⟨retv_bool (by unfold inL; rw [decide_eq_true h1, Bool.true_and]), (by assumption : Rel _ _ _ _ _).toBelow⟩
  · refine sim_run 9 [] (hR.cast (by kernel_rfl)) (by kernel_rfl) trivial (fun ρ300 w300 hm300 hR300 => ?_)
    have hs := hs.moved (hm300.castL (by kernel_rfl))
    refine sim_know 6 (decide (i ≥ 1)) false (by kernel_rfl) (decide_eq_false (by omega)) ?_
    refine sim_run 10 [] (hR300.cast (by kernel_rfl)) (by kernel_rfl) trivial (fun ρ301 w301 hm301 hR301 => ?_)
    have hs := hs.moved (hm301.castL (by kernel_rfl))
    refine sim_ret (LB false) hR301 (by kernel_rfl) (by kernel_rfl) ?_
    
    exact ⟨retv_bool (by unfold inL; rw [decide_eq_false h1]; rfl), (by assumption : Rel _ _ _ _ _).toBelow⟩
set_option maxRecDepth 100000 in
set_option maxHeartbeats 4000000 in
theorem outG_any (q : GrP) (u : List Nat) (ls : List Lk) (gx ox gi oi : Nat) (x : Lk) (w : World) (h : GrV q u ls w) (hu : u.length ≤ 1000) (hc : w.cell? ⟨gx, ox, none⟩ = some (.pointer (some ⟨q.b, 0, none⟩))) (hi : w.cell? ⟨gi, oi, none⟩ = some (.func (.func 37) #[] #[.pointer (some ⟨gx, ox + 0, none⟩)])) :
    Calls Try.prog 40 #[.agg x.cells.toArray, .pointer (some ⟨gi, oi + 0, none⟩)] w fun e w' => e = .returned (.bool (outLB u.length x)) ∧ Below w.heap.size w w' := by
  obtain ⟨ρ, _, e0, hR⟩ := open_cell (Rel.start [] w ρ0) rfl (by kernel_rfl) gi oi _ hi
  have e0 : ρ 0 = (gi, oi) := e0
  have hs := h.sta (ρ := ρ) (rs := [⟨[.v (.func (.func 37) #[] #[.pointer (some ⟨gx, ox + 0, none⟩)])], false⟩]) (by kernel_rfl)
  refine sim_enter Try.func40 ρ [.agg [LI x.kind, LI x.src, LI x.dst], .ptr 0 0] [⟨[.v (.func (.func 37) #[] #[.pointer (some ⟨gx, ox + 0, none⟩)])], false⟩] (by kernel_rfl) (by simp only [denL, LV.den, Nm.at_, e0]; rfl) ?_
  have hR := hR.cast rfl
  have hcg : ∀ w2, Below w.heap.size w w2 → w2.cell? ⟨gx, ox, none⟩ = some (.pointer (some ⟨q.b, 0, none⟩)) := fun w2 hb => (hb.cell (p := ⟨gx, ox, none⟩) (World.block_lt_of_cell? _ _ hc)).trans hc
  refine sim_run 10 [] (hR.cast (by kernel_rfl)) (by kernel_rfl) trivial (fun ρ400 w400 hm400 hR400 => ?_)
  have hs := hs.moved (hm400.castL (by kernel_rfl))
  refine sim_call 37 [LI x.src, .v (Value.pointer (some (Addr.mk gx (ox + 0) none)))] (by kernel_rfl) ?_
  refine Calls.mono (isG_any (q) (u) (ls) _ _ _ _ hs.is (by assumption) (hcg _ (hR400).toBelow)) ?_
  rintro e401 w401 ⟨rfl, hb401⟩
  have hR401 := hR400.below hb401
  have hs := hs.below hb401
  refine Back.of (LB (inL u.length x.src)) hR401 rfl ?_
  refine sim_run 2 [] (hR401.cast (by kernel_rfl)) (by kernel_rfl) trivial (fun ρ402 w402 hm402 hR402 => ?_)
  have hs := hs.moved (hm402.castL (by kernel_rfl))
  refine sim_fork 9 (!inL u.length x.src) (by kernel_rfl) (fun hq403 => ?_) (fun hq403 => ?_)
  have hq403 := nb_t hq403
  refine sim_run 8 [] (hR402.cast (by kernel_rfl)) (by kernel_rfl) trivial (fun ρ404 w404 hm404 hR404 => ?_)
  have hs := hs.moved (hm404.castL (by kernel_rfl))
  refine sim_ret (LB true) hR404 (by kernel_rfl) (by kernel_rfl) ?_
  rotate_left
  have hq403 := nb_f hq403
  refine sim_run 3 [] (hR402.cast (by kernel_rfl)) (by kernel_rfl) trivial (fun ρ405 w405 hm405 hR405 => ?_)
  have hs := hs.moved (hm405.castL (by kernel_rfl))
  refine sim_call 37 [LI x.dst, .v (Value.pointer (some (Addr.mk gx (ox + 0) none)))] (by kernel_rfl) ?_
  refine Calls.mono (isG_any (q) (u) (ls) _ _ _ _ hs.is (by assumption) (hcg _ (hR405).toBelow)) ?_
  rintro e406 w406 ⟨rfl, hb406⟩
  have hR406 := hR405.below hb406
  have hs := hs.below hb406
  refine Back.of (LB (inL u.length x.dst)) hR406 rfl ?_
  refine sim_run 4 [] (hR406.cast (by kernel_rfl)) (by kernel_rfl) trivial (fun ρ407 w407 hm407 hR407 => ?_)
  have hs := hs.moved (hm407.castL (by kernel_rfl))
  refine sim_ret (LB (!inL u.length x.dst)) hR407 (by kernel_rfl) (by kernel_rfl) ?_
  rotate_left
  
  all_goals first
    | exact ⟨retv_bool (by unfold outLB; rw [(by assumption : inL u.length x.src = false)]; rfl), (by assumption : Rel _ _ _ _ _).toBelow⟩
    | exact ⟨retv_bool (by unfold outLB; rw [(by assumption : inL u.length x.src = true)]; rfl), (by assumption : Rel _ _ _ _ _).toBelow⟩
set_option maxRecDepth 100000 in
set_option maxHeartbeats 4000000 in
theorem badG_any (x : Lk) (w : World) : Calls Try.prog 41 #[.agg x.cells.toArray] w fun e w' => e = .returned (.bool (badB x)) ∧ Below w.heap.size w w' := by
  refine sim_enter Try.func41 ρ0 [.agg [LI x.kind, LI x.src, LI x.dst]] [] (by kernel_rfl) rfl ?_
  have hR := Rel.start [] w ρ0
  refine sim_run 11 [] (hR.cast (by kernel_rfl)) (by kernel_rfl) trivial (fun ρ600 w600 hm600 hR600 => ?_)
  refine sim_fork 6 (x.kind != 1) (by kernel_rfl) (fun hq601 => ?_) (fun hq601 => ?_)
  have hq601 := nb_t hq601
  have hq601 := of_decide_eq_false hq601
  refine sim_run 5 [] (hR600.cast (by kernel_rfl)) (by kernel_rfl) trivial (fun ρ602 w602 hm602 hR602 => ?_)
  refine sim_fork 11 (x.kind != 2) (by kernel_rfl) (fun hq603 => ?_) (fun hq603 => ?_)
  have hq603 := nb_t hq603
  have hq603 := of_decide_eq_false hq603
  refine sim_run 8 [] (hR602.cast (by kernel_rfl)) (by kernel_rfl) trivial (fun ρ604 w604 hm604 hR604 => ?_)
  refine sim_ret (LB true) hR604 (by kernel_rfl) (by kernel_rfl) ?_
  rotate_left
  have hq603 := nb_f hq603
  have hq603 := of_decide_eq_true hq603
  refine sim_run 8 [] (hR602.cast (by kernel_rfl)) (by kernel_rfl) trivial (fun ρ605 w605 hm605 hR605 => ?_)
  refine sim_ret (LB (x.src == x.dst)) hR605 (by kernel_rfl) (by kernel_rfl) ?_
  rotate_left
  have hq601 := nb_f hq601
  have hq601 := of_decide_eq_true hq601
  refine sim_run 13 [] (hR600.cast (by kernel_rfl)) (by kernel_rfl) trivial (fun ρ606 w606 hm606 hR606 => ?_)
  refine sim_ret (LB (x.src == x.dst)) hR606 (by kernel_rfl) (by kernel_rfl) ?_
  rotate_left
  
  · exact ⟨retv_bool (by unfold badB; rw [decide_eq_false (by assumption), decide_eq_false (by assumption)]; rfl), (by assumption : Rel _ _ _ _ _).toBelow⟩
  · exact ⟨retv_bool (by unfold badB; rw [decide_eq_false (by assumption), decide_eq_true (by assumption)]; simp only [Bool.not_true, Bool.and_false, Bool.false_or]; rfl), (by assumption : Rel _ _ _ _ _).toBelow⟩
  · exact ⟨retv_bool (by unfold badB; rw [decide_eq_true (by assumption)]; simp only [Bool.not_true, Bool.false_and, Bool.false_or]; rfl), (by assumption : Rel _ _ _ _ _).toBelow⟩
theorem out_pred {T : List Nat} {w0 w : World} {ρ : Nm} {rs : List Reg} {q : GrP} {u : List Nat} {ls : List Lk} (hR : Rel T w0 ρ rs w) (hs : Sta q.has (GrV q u ls) ρ rs w) (e0 : ρ 0 = (q.b, 0)) (hu : u.length ≤ 1000) {b1 b2 : Bool} (h1 : rs[1]? = some ⟨[.ptr 0 0], b1⟩) (h2 : rs[2]? = some ⟨[.fnv (.func 37) [] [.ptr 1 0]], b2⟩) (l : List Lk) : PredLk w 40 #[.pointer (some ⟨(ρ 2).1, (ρ 2).2 + 0, none⟩)] (outLB u.length) l := by
  intro x w1 _ hb
  have c1 := hR.cell 1 _ h1 0 _ rfl
  have c2 := hR.cell 2 _ h2 0 _ rfl
  simp only [LV.den, Nm.at_, e0] at c1
  have k1 := (hb.cell (World.block_lt_of_cell? _ _ c1)).trans c1
  have k2 := (hb.cell (World.block_lt_of_cell? _ _ c2)).trans c2
  exact outG_any q u ls _ _ _ _ x w1 (hs.is.below hb) hu k1 k2
theorem containsOut_any (caps : Array Value) (m : Nat) (A : Option Addr) (n cp B : Nat) (l : List Lk) (w : World) (h : Reads w B 3 A n (lkV l)) (hl : l.length = n) (hB : B ≤ w.heap.size) (hn : n ≤ 100000) (hp : PredLk w 40 caps (outLB m) l) :
    Calls Try.prog 39 #[.slice A n cp, .func (.func 40) #[] caps] w fun e w' => e = .returned (.bool (outL m l)) ∧ Below w.heap.size w w' := containsFLk_any _ out_enters caps (outLB m) A n cp B l w h hl hB hn hp
theorem containsBad_any (A : Option Addr) (n cp B : Nat) (l : List Lk) (w : World) (h : Reads w B 3 A n (lkV l)) (hl : l.length = n) (hB : B ≤ w.heap.size) (hn : n ≤ 100000) :
    Calls Try.prog 39 #[.slice A n cp, .func (.func 41) #[] #[]] w fun e w' => e = .returned (.bool (badL l)) ∧ Below w.heap.size w w' := containsFLk_any _ bad_enters #[] badB A n cp B l w h hl hB hn (fun x w1 _ _ => badG_any x w1)
theorem tryM_long {u : List Nat} {ls l : List Lk} (h : 120 < ls.length + l.length) : tryM u ls l = 2 := by unfold tryM; rw [if_pos h]
theorem tryM_out {u : List Nat} {ls l : List Lk} (h : ¬ 120 < ls.length + l.length) (h2 : outL u.length l = true) : tryM u ls l = 3 := by unfold tryM; rw [if_neg h, if_pos h2]
theorem tryM_bad {u : List Nat} {ls l : List Lk} (h : ¬ 120 < ls.length + l.length) (h2 : outL u.length l = false) (h3 : badL l = true) : tryM u ls l = 1 := by unfold tryM; rw [if_neg h, h2, if_neg (by simp), if_pos h3]
theorem tryM_full {u : List Nat} {ls l : List Lk} (h : ¬ 120 < ls.length + l.length) (h2 : outL u.length l = false) (h3 : badL l = false) : tryM u ls l = if Uf.fullB (Uf.joinedM u l) (ls ++ l) = true then 0 else 24 := by unfold tryM; rw [if_neg h, h2, if_neg (by simp), h3, if_neg (by simp)]
set_option maxRecDepth 100000 in
set_option maxHeartbeats 4000000 in
theorem try_any (q : GrP) (u : List Nat) (ls : List Lk) (A : Option Addr) (n cp B : Nat) (l : List Lk) (w : World) (h : GrV q u ls w) (hi : GInv u ls) (hl : Reads w B 3 A n (lkV l)) (hB : B ≤ w.heap.size) (hn : n ≤ 10000) :
    Calls Try.prog 19 #[.pointer (some ⟨q.b, 0, none⟩), .slice A n cp] w fun e w' => e = .returned (.int .i64 (tryM u ls l)) ∧ Below w.heap.size w w' := by
  have hll := lkV_num hl
  have hu := hi.le
  have hfew := hi.few
  obtain ⟨ρ, e0, hR⟩ := h.open_ false [] (by simp)
  have hs := h.sta (ρ := ρ) (rs := [⟨(q.cells ls.length).map .v, false⟩]) (by kernel_rfl)
  refine sim_enter Try.func19 ρ [.ptr 0 0, .v (.slice A n cp)] [⟨(q.cells ls.length).map .v, false⟩] (by kernel_rfl) (by simp only [denL, LV.den, Nm.at_, e0]) ?_
  have hag := hR.ag_ 1 (by kernel_rfl)
  by_cases h1 : 120 < ls.length + n
  · rw [tryM_long (by omega)]
    refine sim_run 34 [⟨4, 7, LI (IntKind.i64.wrap ((↑ls.length : Int) + (↑n : Int))), LI ((↑ls.length : Int) + (↑n : Int))⟩] (hR.cast (by kernel_rfl)) (by kernel_rfl) ⟨eqi (IntWalk.i64_in _ (by omega)), trivial⟩ (fun ρ700 w700 hm700 hR700 => ?_)
    have hs := hs.moved (hm700.castL (by kernel_rfl))
    have hag := hag.moved (hm700.castL (by kernel_rfl))
    refine sim_know 9 (decide ((↑ls.length : Int) + (↑n : Int) > 120)) true (by kernel_rfl) (decide_eq_true (by omega)) ?_
    refine sim_run 5 [] (hR700.cast (by kernel_rfl)) (by kernel_rfl) trivial (fun ρ701 w701 hm701 hR701 => ?_)
    have hs := hs.moved (hm701.castL (by kernel_rfl))
    have hag := hag.moved (hm701.castL (by kernel_rfl))
    refine sim_ret (LI 2) hR701 (by kernel_rfl) (by kernel_rfl) ?_
    exact ⟨rfl, hR701.toBelow⟩
    
  · have h120 : ¬ 120 < ls.length + l.length := by omega
    have hn2 : n ≤ 100000 := by omega
    have hls2 : ls.length ≤ 10000 := by omega
    have hW := True.intro
    cases ho : outL u.length l with
    | true =>
      rw [tryM_out h120 ho]
      refine sim_run 34 [⟨4, 7, LI (IntKind.i64.wrap ((↑ls.length : Int) + (↑n : Int))), LI ((↑ls.length : Int) + (↑n : Int))⟩] (hR.cast (by kernel_rfl)) (by kernel_rfl) ⟨eqi (IntWalk.i64_in _ (by omega)), trivial⟩ (fun ρ800 w800 hm800 hR800 => ?_)
      have hs := hs.moved (hm800.castL (by kernel_rfl))
      have hag := hag.moved (hm800.castL (by kernel_rfl))
      refine sim_know 9 (decide ((↑ls.length : Int) + (↑n : Int) > 120)) false (by kernel_rfl) (decide_eq_false (by omega)) ?_
      refine sim_run 5 [] (hR800.cast (by kernel_rfl)) (by kernel_rfl) trivial (fun ρ801 w801 hm801 hR801 => ?_)
      have hs := hs.moved (hm801.castL (by kernel_rfl))
      have hag := hag.moved (hm801.castL (by kernel_rfl))
      refine sim_call 39 [.v (Value.slice A n cp), .fnv (Fn.func 40) [] [.ptr 2 0]] (by kernel_rfl) ?_
      refine Calls.mono (containsOut_any _ (u.length) (A) (n) (cp) (B) (l) _ ((hl.belowW ((by assumption : Rel _ _ _ _ _)).toBelow hB)) (hll) ((Nat.le_trans hB ((by assumption : Rel _ _ _ _ _)).keeps.size)) (hn2) ((out_pred ((by assumption : Rel _ _ _ _ _)) hs ((hag.at_ 0 (by omega)).trans e0) hu (b1 := true) (b2 := true) (by kernel_rfl) (by kernel_rfl) l))) ?_
      rw [ho]
      rintro e802 w802 ⟨rfl, hb802⟩
      have hR802 := (hR801).below hb802
      have hs := hs.below hb802
      refine Back.of (LB true) hR802 rfl ?_
      refine sim_run 7 [] (hR802.cast (by kernel_rfl)) (by kernel_rfl) trivial (fun ρ803 w803 hm803 hR803 => ?_)
      have hag := hag.moved (hm803.castL (by kernel_rfl))
      have hs := hs.moved (hm803.castL (by kernel_rfl))
      refine sim_ret (LI 3) hR803 (by kernel_rfl) (by kernel_rfl) ?_
      exact ⟨rfl, hR803.toBelow⟩
      
    | false =>
      cases hb : badL l with
      | true =>
        rw [tryM_bad h120 ho hb]
        refine sim_run 34 [⟨4, 7, LI (IntKind.i64.wrap ((↑ls.length : Int) + (↑n : Int))), LI ((↑ls.length : Int) + (↑n : Int))⟩] (hR.cast (by kernel_rfl)) (by kernel_rfl) ⟨eqi (IntWalk.i64_in _ (by omega)), trivial⟩ (fun ρ900 w900 hm900 hR900 => ?_)
        have hs := hs.moved (hm900.castL (by kernel_rfl))
        have hag := hag.moved (hm900.castL (by kernel_rfl))
        refine sim_know 9 (decide ((↑ls.length : Int) + (↑n : Int) > 120)) false (by kernel_rfl) (decide_eq_false (by omega)) ?_
        refine sim_run 5 [] (hR900.cast (by kernel_rfl)) (by kernel_rfl) trivial (fun ρ901 w901 hm901 hR901 => ?_)
        have hs := hs.moved (hm901.castL (by kernel_rfl))
        have hag := hag.moved (hm901.castL (by kernel_rfl))
        refine sim_call 39 [.v (Value.slice A n cp), .fnv (Fn.func 40) [] [.ptr 2 0]] (by kernel_rfl) ?_
        refine Calls.mono (containsOut_any _ (u.length) (A) (n) (cp) (B) (l) _ ((hl.belowW ((by assumption : Rel _ _ _ _ _)).toBelow hB)) (hll) ((Nat.le_trans hB ((by assumption : Rel _ _ _ _ _)).keeps.size)) (hn2) ((out_pred ((by assumption : Rel _ _ _ _ _)) hs ((hag.at_ 0 (by omega)).trans e0) hu (b1 := true) (b2 := true) (by kernel_rfl) (by kernel_rfl) l))) ?_
        rw [ho]
        rintro e902 w902 ⟨rfl, hb902⟩
        have hR902 := (hR901).below hb902
        have hs := hs.below hb902
        refine Back.of (LB false) hR902 rfl ?_
        refine sim_run 6 [] (hR902.cast (by kernel_rfl)) (by kernel_rfl) trivial (fun ρ903 w903 hm903 hR903 => ?_)
        have hag := hag.moved (hm903.castL (by kernel_rfl))
        have hs := hs.moved (hm903.castL (by kernel_rfl))
        refine sim_call 39 [.v (Value.slice A n cp), .v (Value.func (Fn.func 41) (Array.mk []) (Array.mk []))] (by kernel_rfl) ?_
        refine Calls.mono (containsBad_any (A) (n) (cp) (B) (l) _ ((hl.belowW ((by assumption : Rel _ _ _ _ _)).toBelow hB)) (hll) ((Nat.le_trans hB ((by assumption : Rel _ _ _ _ _)).keeps.size)) (hn2)) ?_
        rw [hb]
        rintro e904 w904 ⟨rfl, hb904⟩
        have hR904 := (hR903).below hb904
        have hs := hs.below hb904
        refine Back.of (LB true) hR904 rfl ?_
        refine sim_run 7 [] (hR904.cast (by kernel_rfl)) (by kernel_rfl) trivial (fun ρ905 w905 hm905 hR905 => ?_)
        have hag := hag.moved (hm905.castL (by kernel_rfl))
        have hs := hs.moved (hm905.castL (by kernel_rfl))
        refine sim_ret (LI 1) hR905 (by kernel_rfl) (by kernel_rfl) ?_
        exact ⟨rfl, hR905.toBelow⟩
        
      | false =>
        rw [tryM_full h120 ho hb]
        have hin := inL_of ho
        have hu2 := hi.inl
        have hgg := hi.good
        cases hf : Uf.fullB (Uf.joinedM u l) (ls ++ l) with
        | true =>
          refine sim_run 34 [⟨4, 7, LI (IntKind.i64.wrap ((↑ls.length : Int) + (↑n : Int))), LI ((↑ls.length : Int) + (↑n : Int))⟩] (hR.cast (by kernel_rfl)) (by kernel_rfl) ⟨eqi (IntWalk.i64_in _ (by omega)), trivial⟩ (fun ρ1000 w1000 hm1000 hR1000 => ?_)
          have hs := hs.moved (hm1000.castL (by kernel_rfl))
          have hag := hag.moved (hm1000.castL (by kernel_rfl))
          refine sim_know 9 (decide ((↑ls.length : Int) + (↑n : Int) > 120)) false (by kernel_rfl) (decide_eq_false (by omega)) ?_
          refine sim_run 5 [] (hR1000.cast (by kernel_rfl)) (by kernel_rfl) trivial (fun ρ1001 w1001 hm1001 hR1001 => ?_)
          have hs := hs.moved (hm1001.castL (by kernel_rfl))
          have hag := hag.moved (hm1001.castL (by kernel_rfl))
          refine sim_call 39 [.v (Value.slice A n cp), .fnv (Fn.func 40) [] [.ptr 2 0]] (by kernel_rfl) ?_
          refine Calls.mono (containsOut_any _ (u.length) (A) (n) (cp) (B) (l) _ ((hl.belowW ((by assumption : Rel _ _ _ _ _)).toBelow hB)) (hll) ((Nat.le_trans hB ((by assumption : Rel _ _ _ _ _)).keeps.size)) (hn2) ((out_pred ((by assumption : Rel _ _ _ _ _)) hs ((hag.at_ 0 (by omega)).trans e0) hu (b1 := true) (b2 := true) (by kernel_rfl) (by kernel_rfl) l))) ?_
          rw [ho]
          rintro e1002 w1002 ⟨rfl, hb1002⟩
          have hR1002 := (hR1001).below hb1002
          have hs := hs.below hb1002
          refine Back.of (LB false) hR1002 rfl ?_
          refine sim_run 6 [] (hR1002.cast (by kernel_rfl)) (by kernel_rfl) trivial (fun ρ1003 w1003 hm1003 hR1003 => ?_)
          have hag := hag.moved (hm1003.castL (by kernel_rfl))
          have hs := hs.moved (hm1003.castL (by kernel_rfl))
          refine sim_call 39 [.v (Value.slice A n cp), .v (Value.func (Fn.func 41) (Array.mk []) (Array.mk []))] (by kernel_rfl) ?_
          refine Calls.mono (containsBad_any (A) (n) (cp) (B) (l) _ ((hl.belowW ((by assumption : Rel _ _ _ _ _)).toBelow hB)) (hll) ((Nat.le_trans hB ((by assumption : Rel _ _ _ _ _)).keeps.size)) (hn2)) ?_
          rw [hb]
          rintro e1004 w1004 ⟨rfl, hb1004⟩
          have hR1004 := (hR1003).below hb1004
          have hs := hs.below hb1004
          refine Back.of (LB false) hR1004 rfl ?_
          refine sim_run 10 [] (hR1004.cast (by kernel_rfl)) (by kernel_rfl) trivial (fun ρ1005 w1005 hm1005 hR1005 => ?_)
          have hag := hag.moved (hm1005.castL (by kernel_rfl))
          have hs := hs.moved (hm1005.castL (by kernel_rfl))
          refine sim_call 42 [.ptr 0 0, .v (Value.slice A n cp)] (by kernel_rfl) ?_
          have ez0_1006 := (hag.at_ 0 (by omega)).trans e0
          simp only [denL, LV.den, Nm.at_, ez0_1006, Nat.add_zero]
          refine Calls.mono (circle_any (q) (u) (ls) (A) (n) (cp) (B) (l) _ (hs.is) (hgg) (hu) (hu2) (hls2) ((hl.belowW ((by assumption : Rel _ _ _ _ _)).toBelow hB)) ((Nat.le_trans hB ((by assumption : Rel _ _ _ _ _)).keeps.size)) (hn) (hin)) ?_
          rw [hf]
          rintro e1006 w1006 ⟨rfl, hb1006⟩
          have hR1006 := (hR1005).below hb1006
          have hs := hs.below hb1006
          refine Back.of (LB false) hR1006 rfl ?_
          refine sim_run 7 [] (hR1006.cast (by kernel_rfl)) (by kernel_rfl) trivial (fun ρ1007 w1007 hm1007 hR1007 => ?_)
          have hag := hag.moved (hm1007.castL (by kernel_rfl))
          have hs := hs.moved (hm1007.castL (by kernel_rfl))
          refine sim_ret (LI 0) hR1007 (by kernel_rfl) (by kernel_rfl) ?_
          exact ⟨rfl, hR1007.toBelow⟩
          
        | false =>
          refine sim_run 34 [⟨4, 7, LI (IntKind.i64.wrap ((↑ls.length : Int) + (↑n : Int))), LI ((↑ls.length : Int) + (↑n : Int))⟩] (hR.cast (by kernel_rfl)) (by kernel_rfl) ⟨eqi (IntWalk.i64_in _ (by omega)), trivial⟩ (fun ρ1100 w1100 hm1100 hR1100 => ?_)
          have hs := hs.moved (hm1100.castL (by kernel_rfl))
          have hag := hag.moved (hm1100.castL (by kernel_rfl))
          refine sim_know 9 (decide ((↑ls.length : Int) + (↑n : Int) > 120)) false (by kernel_rfl) (decide_eq_false (by omega)) ?_
          refine sim_run 5 [] (hR1100.cast (by kernel_rfl)) (by kernel_rfl) trivial (fun ρ1101 w1101 hm1101 hR1101 => ?_)
          have hs := hs.moved (hm1101.castL (by kernel_rfl))
          have hag := hag.moved (hm1101.castL (by kernel_rfl))
          refine sim_call 39 [.v (Value.slice A n cp), .fnv (Fn.func 40) [] [.ptr 2 0]] (by kernel_rfl) ?_
          refine Calls.mono (containsOut_any _ (u.length) (A) (n) (cp) (B) (l) _ ((hl.belowW ((by assumption : Rel _ _ _ _ _)).toBelow hB)) (hll) ((Nat.le_trans hB ((by assumption : Rel _ _ _ _ _)).keeps.size)) (hn2) ((out_pred ((by assumption : Rel _ _ _ _ _)) hs ((hag.at_ 0 (by omega)).trans e0) hu (b1 := true) (b2 := true) (by kernel_rfl) (by kernel_rfl) l))) ?_
          rw [ho]
          rintro e1102 w1102 ⟨rfl, hb1102⟩
          have hR1102 := (hR1101).below hb1102
          have hs := hs.below hb1102
          refine Back.of (LB false) hR1102 rfl ?_
          refine sim_run 6 [] (hR1102.cast (by kernel_rfl)) (by kernel_rfl) trivial (fun ρ1103 w1103 hm1103 hR1103 => ?_)
          have hag := hag.moved (hm1103.castL (by kernel_rfl))
          have hs := hs.moved (hm1103.castL (by kernel_rfl))
          refine sim_call 39 [.v (Value.slice A n cp), .v (Value.func (Fn.func 41) (Array.mk []) (Array.mk []))] (by kernel_rfl) ?_
          refine Calls.mono (containsBad_any (A) (n) (cp) (B) (l) _ ((hl.belowW ((by assumption : Rel _ _ _ _ _)).toBelow hB)) (hll) ((Nat.le_trans hB ((by assumption : Rel _ _ _ _ _)).keeps.size)) (hn2)) ?_
          rw [hb]
          rintro e1104 w1104 ⟨rfl, hb1104⟩
          have hR1104 := (hR1103).below hb1104
          have hs := hs.below hb1104
          refine Back.of (LB false) hR1104 rfl ?_
          refine sim_run 10 [] (hR1104.cast (by kernel_rfl)) (by kernel_rfl) trivial (fun ρ1105 w1105 hm1105 hR1105 => ?_)
          have hag := hag.moved (hm1105.castL (by kernel_rfl))
          have hs := hs.moved (hm1105.castL (by kernel_rfl))
          refine sim_call 42 [.ptr 0 0, .v (Value.slice A n cp)] (by kernel_rfl) ?_
          have ez0_1106 := (hag.at_ 0 (by omega)).trans e0
          simp only [denL, LV.den, Nm.at_, ez0_1106, Nat.add_zero]
          refine Calls.mono (circle_any (q) (u) (ls) (A) (n) (cp) (B) (l) _ (hs.is) (hgg) (hu) (hu2) (hls2) ((hl.belowW ((by assumption : Rel _ _ _ _ _)).toBelow hB)) ((Nat.le_trans hB ((by assumption : Rel _ _ _ _ _)).keeps.size)) (hn) (hin)) ?_
          rw [hf]
          rintro e1106 w1106 ⟨rfl, hb1106⟩
          have hR1106 := (hR1105).below hb1106
          have hs := hs.below hb1106
          refine Back.of (LB true) hR1106 rfl ?_
          refine sim_run 6 [] (hR1106.cast (by kernel_rfl)) (by kernel_rfl) trivial (fun ρ1107 w1107 hm1107 hR1107 => ?_)
          have hag := hag.moved (hm1107.castL (by kernel_rfl))
          have hs := hs.moved (hm1107.castL (by kernel_rfl))
          refine sim_ret (LI 24) hR1107 (by kernel_rfl) (by kernel_rfl) ?_
          exact ⟨rfl, hR1107.toBelow⟩
          
end

section
open Go Go.RowKit
def addU (u : List Nat) (ls l : List Lk) : List Nat := if tryM u ls l = 0 then Uf.withM u l else u
def addL (u : List Nat) (ls l : List Lk) : List Lk := if tryM u ls l = 0 then ls ++ l else ls
theorem GInv.addM {u : List Nat} {ls : List Lk} (h : GInv u ls) (l : List Lk) : GInv (addU u ls l) (addL u ls l) := by
  unfold addU addL
  split
  · exact h.add (by assumption)
  · exact h
theorem addU_len (u : List Nat) (ls l : List Lk) : (addU u ls l).length = u.length := by
  unfold addU
  split
  · exact Uf.withM_len _ _
  · rfl
def AddR (w : World) (q : GrP) (u : List Nat) (ls l : List Lk) (e : Ending) (w' : World) : Prop :=
  e = .returned (.int .i64 (tryM u ls l)) ∧ ∃ q' : GrP, GrV q' (addU u ls l) (addL u ls l) w' ∧ q'.b = q.b ∧ q'.pb = q.pb ∧ Kept q.has w w' ∧ ∀ x, q'.has x → q.has x ∨ w.heap.size ≤ x
theorem addR_same {w w' : World} {q : GrP} {u : List Nat} {ls l : List Lk} (h : GrV q u ls w') (hb : Kept q.has w w') {k : Int} (ht : tryM u ls l = k) (hk : k ≠ 0) : AddR w q u ls l (.returned (.int .i64 k)) w' :=
  ⟨by rw [ht], q, by unfold addU addL; rw [if_neg (by omega), if_neg (by omega)]; exact h, rfl, rfl, hb, fun _ h => .inl h⟩
/-- the blocks of a graph -/
def GrP.T (q : GrP) : List Nat := [q.b, q.pb, q.pg] ++ (match q.L with | some a => [a.block] | none => [])
theorem GrP.T_iff {q : GrP} {x : Nat} : x ∈ q.T ↔ q.has x := by
  unfold GrP.T GrP.has
  cases q.L with
  | none => simp
  | some a =>
    simp
    constructor
    · rintro (h | h | h | h) <;> simp [h]
    · rintro (h | h | h | h) <;> simp [h]
/-- a graph but its classes -/
structure GrH (q : GrP) (ls : List Lk) (w : World) : Prop where
  blk : Blk w q.b 36 #[.pointer (some ⟨q.pb, 0, none⟩), .slice q.L ls.length q.cl]
  own : w.ownsRow 0 30 3 (.slice q.L ls.length q.cl) ls.length (lkV ls)
def grhS (q : GrP) (x : Nat) : Prop := x = q.b ∨ ∃ a, q.L = some a ∧ a.block = x
theorem GrH.same {q : GrP} {ls : List Lk} : ∀ (w1 w2 : World) (S' : Nat → Prop), GrH q ls w1 → (∀ x, grhS q x → x < w1.heap.size) → Kept S' w1 w2 → (∀ x, grhS q x → ¬ S' x) → GrH q ls w2 := fun _ _ _ h _ hk hn => by
  refine ⟨h.blk.kept hk (hn _ (.inl rfl)), own_kept h.own hk (fun x hx => hn x ?_)⟩
  cases hL : q.L with
  | none => rw [hL] at hx; cases hx
  | some a =>
    rw [hL] at hx
    simp only [Value.ownBlock, Option.some.injEq] at hx
    exact .inr ⟨a, hL, hx⟩
theorem Sta.grh {q : GrP} {u : List Nat} {ls : List Lk} {ρ : Nm} {rs : List Reg} {w : World} (h : Sta q.has (GrV q u ls) ρ rs w) : Sta (grhS q) (GrH q ls) ρ rs w :=
  ⟨⟨h.is.blk, h.is.own⟩, fun x hx => h.far x (hx.elim .inl (fun e => .inr (.inr (.inr e)))), fun x hx => h.lt x (hx.elim .inl (fun e => .inr (.inr (.inr e)))), GrH.same⟩
theorem Rel.ufNewT {T : List Nat} {w0 : World} {b g : Nat} {V : World → Prop} {ρ : Nm} {rs : List Reg} {w w' : World} (hR : Rel T w0 ρ rs w) (h : Sta (ufS b g) V ρ rs w) (hk : Keeps [b, g] w w') (hT : ∀ x, x = b ∨ x = g → x ∈ T ∨ w0.heap.size ≤ x) (l : List Nat) (hl : roIdx rs 0 = l) (hidx : ∀ k ∈ l, (ρ k).1 ≠ b ∧ (ρ k).1 ≠ g) : Rel T w0 ρ rs w' := by
  refine hR.kept hk.kept (fun n r hn hne hs => ?_) (fun x hx => ?_)
  · simp only [List.mem_cons, List.not_mem_nil, or_false] at hs
    cases hw : r.wr with
    | true => exact h.far _ hs ⟨n, r, hn, hw, rfl⟩
    | false =>
      have hm := roIdx_mem rs 0 n r hn hw hne
      rw [hl, Nat.zero_add] at hm
      have := hidx n hm
      exact hs.elim this.1 this.2
  · simp only [List.mem_cons, List.not_mem_nil, or_false] at hx
    exact hT x hx
/-- the parts of a graph lie apart -/
theorem GrV.apart {q : GrP} {u : List Nat} {ls : List Lk} {w : World} (h : GrV q u ls w) : ∀ x, grhS q x → x ≠ q.pb ∧ x ≠ q.pg := by
  have hbp : q.b ≠ q.pb := h.blk.ne_ h.uf.blk (by decide)
  have hg : ∀ x, grhS q x → x ≠ q.pb := by
    rintro x (rfl | ⟨a, ha, rfl⟩)
    · exact hbp
    · have := own_blk_ne h.own h.uf.blk (by decide)
      rw [ha] at this
      exact fun e => this (by rw [← e]; rfl)
  refine fun x hx => ⟨hg x hx, ?_⟩
  rcases h.uf.at_ with ⟨_, e⟩ | ⟨e, _⟩
  · rw [e]; exact hg x hx
  · rcases hx with rfl | ⟨a, ha, rfl⟩
    · have := own_blk_ne h.uf.own h.blk (by decide)
      rw [e] at this
      exact fun e2 => this (by rw [e2]; rfl)
    · have := own_own_ne h.own h.uf.own (by decide) a.block (by rw [ha]; rfl)
      rw [e] at this
      exact fun e2 => this (by rw [e2]; rfl)
attribute [local irreducible] run goO leaveK someK nextK nextT nextOT nextOD loopBody loopRest loopK fillJ tmplOf tmplJ mergeT At AtO drawOk ordOf gateOf callC callO topOp topO idxOf appOf storeOf clearOf sliceOf calleeOf calleeO topQ idxQ newRowOf resL stepOp seek
set_option maxRecDepth 100000 in
set_option maxHeartbeats 4000000 in
theorem add_any (q : GrP) (u : List Nat) (ls : List Lk) (A : Option Addr) (n cp B : Nat) (l : List Lk) (w : World) (h : GrV q u ls w) (hi : GInv u ls) (hl : Reads w B 3 A n (lkV l)) (hB : B ≤ w.heap.size) (hn : n ≤ 10000) (hA : ∀ a, A = some a → a.block < B → ¬ q.has a.block) :
    Calls Try.prog 11 #[.pointer (some ⟨q.b, 0, none⟩), .slice A n cp] w (AddR w q u ls l) := by
  have hll := lkV_num hl
  have hu := hi.le
  have hfew := hi.few
  have hgd := hi.good
  obtain ⟨ρ, e0, hR⟩ := h.open_ false q.T (by simp)
  have hs := h.sta (ρ := ρ) (rs := [⟨(q.cells ls.length).map .v, false⟩]) (by kernel_rfl)
  refine sim_enter Try.func11 ρ [.ptr 0 0, .v (.slice A n cp)] [⟨(q.cells ls.length).map .v, false⟩] (by kernel_rfl) (by simp only [denL, LV.den, Nm.at_, e0]) ?_
  have hag := hR.ag_ 1 (by kernel_rfl)
  have hAT : ∀ a, A = some a → a.block < B → a.block ∉ q.T := fun a ha hb hm => hA a ha hb (GrP.T_iff.1 hm)
  generalize ht : tryM u ls l = t
  by_cases h0 : t = 0
  · subst h0
    refine sim_run 9 [] (hR.cast (by kernel_rfl)) (by kernel_rfl) trivial (fun ρ100 w100 hm100 hR100 => ?_)
    have hs := hs.moved (hm100.castL (by kernel_rfl))
    have hag := hag.moved (hm100.castL (by kernel_rfl))
    refine sim_call 19 [.ptr 0 0, .v (Value.slice A n cp)] (by kernel_rfl) ?_
    have ez0_101 := (hag.at_ 0 (by omega)).trans e0
    simp only [denL, LV.den, Nm.at_, ez0_101, Nat.add_zero]
    refine Calls.mono (try_any (q) (u) (ls) (A) (n) (cp) (B) (l) _ (hs.is) (hi) ((hl.keepsFar ((by assumption : Rel _ _ _ _ _)).keeps hB hAT)) ((Nat.le_trans hB ((by assumption : Rel _ _ _ _ _)).keeps.size)) (hn)) ?_
    rw [ht]
    rintro e101 w101 ⟨rfl, hb101⟩
    have hR101 := (hR100).below hb101
    have hs := hs.below hb101
    refine Back.of (LI 0) hR101 rfl ?_
    refine sim_run 17 [] (hR101.cast (by kernel_rfl)) (by kernel_rfl) trivial (fun ρ102 w102 hm102 hR102 => ?_)
    have hag := hag.moved (hm102.castL (by kernel_rfl))
    have hs := hs.moved (hm102.castL (by kernel_rfl))
    
    have hin := inL_of (tryM_zero ht).2.1
    have hlen := (tryM_zero ht).1
    have hj := hs.uf
    have hh := hs.grh
    have hap := h.apart
    have hpb : q.pb ∈ q.T := GrP.T_iff.2 (.inr (.inl rfl))
    have hpg : q.pg ∈ q.T := GrP.T_iff.2 (.inr (.inr (.inl rfl)))
    have hw0 : Uf.withM u (l.take 0) = u := rfl
    rw [← hw0] at hj
    refine sim_loop (ι := Nat) (T := q.T) (w0 := w) 0 [0, 1, 14, 15] (fun k => [(16, LI k)]) (fun _ => [⟨(q.cells ls.length).map .v, false⟩]) (fun k w1 => k ≤ n ∧ Sta (ufS q.pb q.pg) (UfW q.pb q.pg (Uf.withM u (l.take k)) q.A q.c) ρ102 [⟨(q.cells ls.length).map .v, false⟩] w1 ∧ Sta (grhS q) (GrH q ls) ρ102 [⟨(q.cells ls.length).map .v, false⟩] w1) (fun k => n - k) (by kernel_rfl) (by kernel_rfl) ((by assumption : Rel _ _ _ _ _).cast (by kernel_rfl)) ⟨Nat.zero_le _, hj.castR (by kernel_rfl), hh.castR (by kernel_rfl)⟩ ?_
    have e0 := (hag.at_ 0 (by omega)).trans e0
    iterate 8 (try clear hj)
    iterate 8 (try clear hh)
    iterate 8 (try clear hs)
    iterate 8 (try clear hag)
    rintro i d w3 hR3 ⟨hi2, hj, hh⟩
    have hag0 := hR3.ag_ 1 (by kernel_rfl)
    by_cases hlt : i < n
    · obtain ⟨x, hx⟩ : ∃ x, l[i]? = some x := ⟨_, List.getElem?_eq_getElem (by omega)⟩
      have hxi := hin x (List.mem_of_getElem? hx)
      obtain ⟨kd, a, b, rfl⟩ : ∃ (kd : Int) (a b : Nat), x = ⟨kd, (a : Int), (b : Int)⟩ := ⟨x.kind, x.src.toNat, x.dst.toNat, by rw [Int.toNat_of_nonneg (by omega), Int.toNat_of_nonneg (by omega)]⟩
      have ha : 1 ≤ a ∧ a ≤ u.length := by have := hxi.1; dsimp only at this; omega
      have hb : 1 ≤ b ∧ b ≤ u.length := by have := hxi.2; dsimp only at this; omega
      have hrg := Uf.withM_good hgd (ls := l.take i) (fun y hy => hin y (List.mem_of_mem_take hy))
      have hrl := Uf.withM_len u (l.take i)
      have htk : l.take (i + 1) = l.take i ++ [⟨kd, (a : Int), (b : Int)⟩] := by rw [List.take_add_one, hx]; rfl
      have hws := Uf.withM_snoc u (l.take i) ⟨kd, (a : Int), (b : Int)⟩
      rw [← htk] at hws
      simp only [Int.toNat_natCast] at hws
      have hab : InN (Uf.withM u (l.take i)) [a, b] := fun y hy => by simp only [List.mem_cons, List.not_mem_nil, or_false] at hy; omega
      refine sim_see (Lk.cells ⟨kd, (a : Int), (b : Int)⟩) i 1 (by kernel_rfl) (by rw [List.getElem?_map, hx]; rfl) hl (lk_in l) (by omega) hlt hB (fun a ha => hAT a ha (by obtain ⟨_, e1, e2, _⟩ := hl.2 (by omega); rw [ha] at e1; injection e1 with e1; subst e1; exact e2)) hR3 (by kernel_rfl) (fun ga oa ρE eA hgT hgl hmE eE hRE => ?_)
      subst eA
      have hj := hj.moved hmE
      have hh := hh.moved hmE
      have e0 := (hmE.agree 0 (by show 0 < 1; omega)).trans e0
      have hag0 := hag0.moved hmE
      have hag := hRE.ag_ 2 (by kernel_rfl)
      have hidx : ∀ k ∈ [0, 1], (ρE k).1 ≠ q.pb ∧ (ρE k).1 ≠ q.pg := fun k hk => by
        simp only [List.mem_cons, List.not_mem_nil, or_false] at hk
        rcases hk with rfl | rfl
        · rw [e0]; exact hap _ (.inl rfl)
        · rw [eE]; exact ⟨fun e => hgT (by rw [show ga = q.pb from e]; exact hpb), fun e => hgT (by rw [show ga = q.pg from e]; exact hpg)⟩
      have hidx2 : ∀ ρ' : Nm, ρ' 0 = ρE 0 → ρ' 1 = ρE 1 → ∀ k ∈ [0, 1], (ρ' k).1 ≠ q.pb ∧ (ρ' k).1 ≠ q.pg := fun ρ' h1 h2 k hk => by
        have := hidx k hk
        simp only [List.mem_cons, List.not_mem_nil, or_false] at hk
        rcases hk with rfl | rfl
        · rw [h1]; exact this
        · rw [h2]; exact this
      have hufT : ∀ x, x = q.pb ∨ x = q.pg → x ∈ q.T ∨ w.heap.size ≤ x := fun x hx => .inl (hx.elim (fun e => e ▸ hpb) (fun e => e ▸ hpg))
      refine sim_run 5 [] (hRE.cast (by kernel_rfl)) (by kernel_rfl) trivial (fun ρ400 w400 hm400 hR400 => ?_)
      have hj := hj.moved (hm400.castL (by kernel_rfl))
      have hh := hh.moved (hm400.castL (by kernel_rfl))
      have hag0 := hag0.moved (hm400.castL (by kernel_rfl))
      have hag := hag.moved (hm400.castL (by kernel_rfl))
      refine sim_know 17 (decide ((↑i : Int) < (↑n : Int))) true (by kernel_rfl) (decide_eq_true (by omega)) ?_
      refine sim_run 6 [] (hR400.cast (by kernel_rfl)) (by kernel_rfl) trivial (fun ρ401 w401 hm401 hR401 => ?_)
      have hj := hj.moved (hm401.castL (by kernel_rfl))
      have hh := hh.moved (hm401.castL (by kernel_rfl))
      have hag0 := hag0.moved (hm401.castL (by kernel_rfl))
      have hag := hag.moved (hm401.castL (by kernel_rfl))
      refine sim_place (.v (.slice (some ⟨ga, oa, none⟩) n cp)) n 3 i 1 0 (by kernel_rfl) (by omega) (by omega) rfl (by simp only [Nm.at_, hag.at_ 1 (by omega), eE, Nat.add_zero, Int.toNat_natCast]) ?_
      refine sim_run 10 [] (hR401.cast (by kernel_rfl)) (by kernel_rfl) trivial (fun ρ403 w403 hm403 hR403 => ?_)
      have hj := hj.moved (hm403.castL (by kernel_rfl))
      have hh := hh.moved (hm403.castL (by kernel_rfl))
      have hag0 := hag0.moved (hm403.castL (by kernel_rfl))
      have hag := hag.moved (hm403.castL (by kernel_rfl))
      refine sim_fork 22 ((Lk.mk kd (↑a : Int) (↑b : Int)).kind == 1) (by kernel_rfl) (fun hq404 => ?_) (fun hq404 => ?_)
      have hq404 := of_decide_eq_true hq404
      refine sim_run 1 [] (hR403.cast (by kernel_rfl)) (by kernel_rfl) trivial (fun ρ405 w405 hm405 hR405 => ?_)
      have hj := hj.moved (hm405.castL (by kernel_rfl))
      have hh := hh.moved (hm405.castL (by kernel_rfl))
      have hag0 := hag0.moved (hm405.castL (by kernel_rfl))
      have hag := hag.moved (hm405.castL (by kernel_rfl))
      refine sim_drawT (Tr.mk [(0, false), (1, false), (2, false), (3, false), (4, false), (5, false), (6, false), (7, false), (8, true), (9, true)] Ks.nil) (some 9) (by kernel_rfl) (by kernel_rfl) hR405 (fun hR406 => ?_)
      have hj := hj.drew
      have hh := hh.drew
      refine sim_ordN 9 [] hR406 (by kernel_rfl) trivial (fun ρ407 w407 hm407 hR407 => ?_)
      have hag0 := hag0.moved (hm407.castL (by kernel_rfl))
      have hag := hag.moved (hm407.castL (by kernel_rfl))
      have hj := hj.moved (hm407.castL (by kernel_rfl))
      have hh := hh.moved (hm407.castL (by kernel_rfl))
      refine sim_ord_call (T := q.T) (w0 := w) 29 [.v (Value.pointer (some (Addr.mk q.pb 0 none))), .slc 3 0 2 2] (by kernel_rfl) ?_
      refine Calls.mono (join_in (q.pb) (q.pg) (Uf.withM u (l.take i)) (q.A) (q.c) _ (2) (2) _ (a) ([a, b]) _ (hj.is) (hrg) ((by omega)) ((Rel.reads (RelO.rel (by assumption)) (n := 3) (size := 1) (m := 2) (vs := nats [a, b]) (b := true) (by kernel_rfl) rfl)) (Nat.le_refl _) ((hj.farB (n := 3) (r := ⟨(nats [a, b]).map .v, true⟩) (by kernel_rfl) rfl _)) (hab) (rfl) ((by omega))) ?_
      rintro e408 w408 ⟨rfl, hu408, hk408⟩
      have hQ408 := (hR407).rel.ufNewT hj hk408 hufT [0, 1] (by kernel_rfl) (hidx2 _ (hag.at_ 0 (by omega)) (hag.at_ 1 (by omega)))
      have hh := hh.kept hk408.kept (fun x hx hm => by simp only [List.mem_cons, List.not_mem_nil, or_false] at hm; exact hm.elim (hap x hx).1 (hap x hx).2)
      have hj := hj.ufNew hu408
      have hR408 := (hR407).with hQ408 (.v (.tuple #[.int .i64 (joinC (Uf.withM u (l.take i)) a [a, b] : Nat), .int .i64 0]))
      refine BackO.of (.v (.tuple #[.int .i64 (joinC (Uf.withM u (l.take i)) a [a, b] : Nat), .int .i64 0])) hR408 rfl ?_
      refine sim_fork0 (by kernel_rfl) (by kernel_rfl) hR408 (fun hR409 => ?_)
      refine sim_run 5 [⟨9, 0, LI (IntKind.i64.wrap ((↑i : Int) + 1)), LI ((↑i : Int) + 1)⟩] (hR409.cast (by kernel_rfl)) (by kernel_rfl) ⟨eqi (IntWalk.i64_in _ (by omega)), trivial⟩ (fun ρ410 w410 hm410 hR410 => ?_)
      have hag0 := hag0.moved (hm410.castL (by kernel_rfl))
      have hag := hag.moved (hm410.castL (by kernel_rfl))
      have hh := hh.moved (hm410.castL (by kernel_rfl))
      have hj := hj.moved (hm410.castL (by kernel_rfl))
      rotate_left
      have hq404 := of_decide_eq_false hq404
      refine sim_run 7 [⟨9, 0, LI (IntKind.i64.wrap ((↑i : Int) + 1)), LI ((↑i : Int) + 1)⟩] (hR403.cast (by kernel_rfl)) (by kernel_rfl) ⟨eqi (IntWalk.i64_in _ (by omega)), trivial⟩ (fun ρ411 w411 hm411 hR411 => ?_)
      have hj := hj.moved (hm411.castL (by kernel_rfl))
      have hh := hh.moved (hm411.castL (by kernel_rfl))
      have hag0 := hag0.moved (hm411.castL (by kernel_rfl))
      have hag := hag.moved (hm411.castL (by kernel_rfl))
      rotate_left
      
      · have e1 : joinU (Uf.withM u (l.take i)) a [a, b] = Uf.withM u (l.take (i + 1)) := by
          rw [hws, if_pos (by assumption), joinU_pair]
        rw [e1] at hj
        exact sim_again (i + 1) (by kernel_rfl) (by show n - (i + 1) < n - i; omega) (by kernel_rfl) (by kernel_rfl) (by kernel_rfl) hag0.ag (Rel.cast (by assumption) (by kernel_rfl)) (by kernel_rfl) (by kernel_rfl) ⟨hlt, hj.cut hag0 rfl (by kernel_rfl), hh.cut hag0 rfl (by kernel_rfl)⟩
      · rw [if_neg (by assumption)] at hws
        rw [← hws] at hj
        exact sim_again (i + 1) (by kernel_rfl) (by show n - (i + 1) < n - i; omega) (by kernel_rfl) (by kernel_rfl) (by kernel_rfl) hag0.ag (Rel.cast (by assumption) (by kernel_rfl)) (by kernel_rfl) (by kernel_rfl) ⟨hlt, hj.cut hag0 rfl (by kernel_rfl), hh.cut hag0 rfl (by kernel_rfl)⟩
    · refine sim_run 5 [] (hR3.cast (by kernel_rfl)) (by kernel_rfl) trivial (fun ρ500 w500 hm500 hR500 => ?_)
      have hj := hj.moved (hm500.castL (by kernel_rfl))
      have hh := hh.moved (hm500.castL (by kernel_rfl))
      have hag0 := hag0.moved (hm500.castL (by kernel_rfl))
      refine sim_know 17 (decide ((↑i : Int) < (↑n : Int))) false (by kernel_rfl) (decide_eq_false (by omega)) ?_
      refine sim_run 1 [] (hR500.cast (by kernel_rfl)) (by kernel_rfl) trivial (fun ρ501 w501 hm501 hR501 => ?_)
      have hj := hj.moved (hm501.castL (by kernel_rfl))
      have hh := hh.moved (hm501.castL (by kernel_rfl))
      have hag0 := hag0.moved (hm501.castL (by kernel_rfl))
      refine sim_leave (by kernel_rfl) ?_
      refine sim_run 8 [] (hR501.cast (by kernel_rfl)) (by kernel_rfl) trivial (fun ρ502 w502 hm502 hR502 => ?_)
      have hj := hj.moved (hm502.castL (by kernel_rfl))
      have hh := hh.moved (hm502.castL (by kernel_rfl))
      have hag0 := hag0.moved (hm502.castL (by kernel_rfl))
      
      obtain rfl : i = n := by omega
      rw [show l.take i = l from by rw [← hll]; exact List.take_length] at hj
      have e0b := e0
      have e0 := (hag0.at_ 0 (by omega)).trans e0
      have hnb : ∀ g, (Value.slice q.L ls.length q.cl).ownBlock = some g → grhS q g := fun x hx => by
        cases hL : q.L with
        | none => rw [hL] at hx; cases hx
        | some a =>
          rw [hL] at hx
          simp only [Value.ownBlock, Option.some.injEq] at hx
          exact .inr ⟨a, hL, hx⟩
      have hob := own_blk_ne hh.is.own hh.is.blk (by decide)
      have hone : ∀ {rs : List Reg} {k : Nat} {r : Reg}, Nat.beq rs.length 1 = true → rs[k]? = some r → k = 0 := fun {rs k r} h1 h2 => by
        have h3 := (List.getElem?_eq_some_iff.1 h2).1
        have h4 := Nat.eq_of_beq_eq_true h1
        omega
      have hszw := ((by assumption : Rel _ _ _ _ _)).keeps.size
      refine sim_appendRT 22 (.slice q.L ls.length q.cl) A i cp (by kernel_rfl) (by assumption : Rel _ _ _ _ _) tyLk hh.is.own (hl.keepsFar ((by assumption : Rel _ _ _ _ _)).keeps hB hAT) (oneV (lk_one l)) (by unfold maxLen; omega) (by omega) (Nat.zero_le _) (fun g hg => .inl (GrP.T_iff.2 ((hnb g hg).elim .inl (fun e => .inr (.inr (.inr e)))))) (fun g hg k r hk _ he => by
        obtain rfl := hone (by kernel_rfl) hk
        rw [e0] at he
        have he : q.b = g := he
        exact hob (by rw [he]; exact hg)) (fun v' w6 g1 g2 g3 hR6 => ?_)
      obtain ⟨L6, c6, rfl⟩ := own_row g1
      have hj := hj.grown g2 (fun x hx e => by
        have := hap x (hnb x e)
        exact hx.elim this.1 this.2)
      have hqb : Blk w6 q.b 36 (q.cells ls.length).toArray := Blk.grown hh.is.blk g2 (fun e => hob e.symm)
      have hown := Own.ro hR6 g1 (by kernel_rfl)
      clear hh
      refine sim_run 2 [] (hR6.cast (by kernel_rfl)) (by kernel_rfl) trivial (fun ρ600 w600 hm600 hR600 => ?_)
      have hag0 := hag0.moved (hm600.castL (by kernel_rfl))
      have hj := hj.moved (hm600.castL (by kernel_rfl))
      have hown := hown.moved (hm600.castL (by kernel_rfl))
      
      have e0 := (hag0.at_ 0 (by omega)).trans (e0b)
      have hqb := hqb.kept hm600.kept (fun hw => wrS_allRo (by kernel_rfl) hw)
      refine sim_rs [] ?_
      refine sim_store (a := .ptr 0 1) (vs := [.v (.slice L6 (ls.length + i) c6)]) (by kernel_rfl) ((by assumption : Rel _ _ _ _ _).none_) (g := q.b) (o := 1) (by simp only [LV.den, Nm.at_, e0, Nat.zero_add]) hqb (by show 2 ≤ 2; omega) (.inl (GrP.T_iff.2 (.inl rfl))) (fun k r hk _ => (noReg (by kernel_rfl) hk).elim) (fun w7 hb7 hk7 hR7 => ?_)
      have hbne := own_blk_ne hown.own hqb (by decide)
      have hj := hj.kept hk7 (fun x hx e => (hap q.b (.inl rfl)).elim (fun h1 h2 => hx.elim (fun h3 => h1 (e.symm.trans h3)) (fun h3 => h2 (e.symm.trans h3))))
      have ho7 := own_kept hown.own hk7 (fun g hg e => hbne (e ▸ hg))
      refine sim_run 5 [] (hR7.cast (by kernel_rfl)) (by kernel_rfl) trivial (fun ρ700 w700 hm700 hR700 => ?_)
      refine sim_ret (LI 0) hR700 (by kernel_rfl) (by kernel_rfl) ?_
      
      have hK : ∀ x, ¬ wrS ρ600 [] x := fun x hw => noW0 hw
      have hj := hj.kept hm700.kept (fun x _ hw => hK x (by exact hw))
      have hb8 := hb7.kept hm700.kept (fun hw => hK _ (by exact hw))
      have ho8 := own_kept ho7 hm700.kept (fun g _ hw => hK g (by exact hw))
      have hu7 : UfAt w700 q.pb q.pg (Uf.withM u l) q.A q.c := hj.is
      refine ⟨by rw [ht]; rfl, ⟨q.b, q.pb, q.pg, q.A, q.c, L6, c6⟩, ⟨?_, ?_, ?_⟩, rfl, rfl, ((by assumption : Rel _ _ _ _ _)).keeps.kept.mono (fun x hx => .inl (GrP.T_iff.1 hx)), fun x hx => ?_⟩
      · unfold addL
        rw [if_pos ht, List.length_append, hll]
        exact hb8
      · unfold addU
        rw [if_pos ht]
        exact hu7
      · unfold addL
        rw [if_pos ht, List.length_append, hll, lkV_append]
        exact ho8
      · rcases hx with hx | hx | hx | ⟨a, ha, hx⟩
        · exact .inl (.inl hx)
        · exact .inl (.inr (.inl hx))
        · exact .inl (.inr (.inr (.inl hx)))
        · have ha : L6 = some a := ha
          subst ha
          rcases g3 with g3 | g3
          · have := hnb x (by rw [← g3, ← hx]; rfl)
            exact .inl (this.elim .inl (fun e => .inr (.inr (.inr e))))
          · simp only [Value.ownBlock, Option.some.injEq] at g3
            exact .inr (by omega)
  · refine sim_run 9 [] (hR.cast (by kernel_rfl)) (by kernel_rfl) trivial (fun ρ200 w200 hm200 hR200 => ?_)
    have hs := hs.moved (hm200.castL (by kernel_rfl))
    have hag := hag.moved (hm200.castL (by kernel_rfl))
    refine sim_call 19 [.ptr 0 0, .v (Value.slice A n cp)] (by kernel_rfl) ?_
    have ez0_201 := (hag.at_ 0 (by omega)).trans e0
    simp only [denL, LV.den, Nm.at_, ez0_201, Nat.add_zero]
    refine Calls.mono (try_any (q) (u) (ls) (A) (n) (cp) (B) (l) _ (hs.is) (hi) ((hl.keepsFar ((by assumption : Rel _ _ _ _ _)).keeps hB hAT)) ((Nat.le_trans hB ((by assumption : Rel _ _ _ _ _)).keeps.size)) (hn)) ?_
    rw [ht]
    rintro e201 w201 ⟨rfl, hb201⟩
    have hR201 := (hR200).below hb201
    have hs := hs.below hb201
    refine Back.of (LI t) hR201 rfl ?_
    refine sim_run 7 [] (hR201.cast (by kernel_rfl)) (by kernel_rfl) trivial (fun ρ202 w202 hm202 hR202 => ?_)
    have hag := hag.moved (hm202.castL (by kernel_rfl))
    have hs := hs.moved (hm202.castL (by kernel_rfl))
    refine sim_know 12 (t != 0) true (by kernel_rfl) (bne_iff_ne.2 h0) ?_
    refine sim_run 6 [] (hR202.cast (by kernel_rfl)) (by kernel_rfl) trivial (fun ρ203 w203 hm203 hR203 => ?_)
    have hag := hag.moved (hm203.castL (by kernel_rfl))
    have hs := hs.moved (hm203.castL (by kernel_rfl))
    refine sim_ret (LI t) hR203 (by kernel_rfl) (by kernel_rfl) ?_
    
    exact addR_same hs.is (((by assumption : Rel _ _ _ _ _)).keeps.kept.mono (fun x hx => .inl (GrP.T_iff.1 hx))) ht h0
end

section
open Go Go.RowKit
theorem Rel.rowW {T : List Nat} {w0 w : World} {ρ : Nm} {rs : List Reg} (_ : Rel T w0 ρ rs w) {g : Nat} {t : TypeId} {cur : List Value} (h : Blk w g t cur.toArray) : RowV ρ rs w g t cur := RowV.start h ρ rs
theorem RowsR.widen {w : World} {B base base' : Nat} {L : Option Addr} {xss : List (List Nat)} (h : RowsR w B base L xss) (hb : base' ≤ base) : RowsR w w.heap.size base' L xss := by
  obtain ⟨vs, hr, hL, hrow⟩ := h
  refine ⟨vs, hr.size_ (by omega), fun ad e => by have := hL ad e; omega, fun i xs hx => ?_⟩
  obtain ⟨A, cap, h1, h2, h3, h4, h5⟩ := hrow i xs hx
  exact ⟨A, cap, h1, h2, h3, h4.size_ (by omega), fun ad e => by have := h5 ad e; omega⟩
theorem own_nil {w : World} {b n cl s : Nat} {e : TypeId} {L : Option Addr} {xs : List Value} (h : w.ownsRow b e s (.slice L n cl) n xs) (hL : L = none) : n = 0 ∧ cl = 0 := by
  subst hL
  rcases h.2 with ⟨h1, h2⟩ | ⟨g, cap, cur, h1, _⟩
  · injection h1 with _ h3 h4
    exact ⟨h2, h4⟩
  · injection h1 with h1
    cases h1
attribute [local irreducible] run goO leaveK someK nextK nextT nextOT nextOD loopBody loopRest loopK fillJ tmplOf tmplJ mergeT At AtO drawOk ordOf gateOf callC callO topOp topO idxOf appOf storeOf clearOf sliceOf calleeOf calleeO topQ idxQ newRowOf resL stepOp seek
set_option maxRecDepth 100000 in
set_option maxHeartbeats 4000000 in
theorem newG_any (n : Nat) (hn : n ≤ 1000) (w : World) : Calls Try.prog 10 #[.int .i64 n] w fun e w' => ∃ q : GrP, e = .returned (.tuple #[.pointer (some ⟨q.b, 0, none⟩), .int .i64 0]) ∧ GrV q (Uf.fresh n) [] w' ∧ (∀ x, q.has x → w.heap.size ≤ x) ∧ Below w.heap.size w w' := by
  refine sim_enter Try.func10 ρ0 [LI n] [] (by kernel_rfl) rfl ?_
  have hR := Rel.start [] w ρ0
  refine sim_run 8 [] (hR.cast (by kernel_rfl)) (by kernel_rfl) trivial (fun ρ100 w100 hm100 hR100 => ?_)
  refine sim_call 28 [LI ((↑n : Int))] (by kernel_rfl) ?_
  refine Calls.mono (new_in (n) (hn) _) ?_
  rintro e101 w101 ⟨rfl, gq, Aq, cq, hu101, hb101, hgq⟩
  have hbs := (hR100).keeps.size
  have hj := Sta.new (S := ufS _ gq) (V := UfW _ gq (Uf.fresh n) Aq cq) (hR100) hu101 (fun x hx => hx.elim (fun e => e ▸ Nat.le_refl _) (fun e => e ▸ hgq)) (fun x hx => hx.elim (fun e => e ▸ hu101.lt.1) (fun e => e ▸ hu101.lt.2)) UfW.same
  have hR101 := (hR100).below hb101
  refine Back.of (.tup [.v (Value.pointer (some (Addr.mk w100.heap.size 0 none))), LI 0]) hR101 rfl ?_
  refine sim_run 18 [] (hR101.cast (by kernel_rfl)) (by kernel_rfl) trivial (fun ρ102 w102 hm102 hR102 => ?_)
  have hj := hj.moved (hm102.castL (by kernel_rfl))
  
  have hj := hj.castR (rs' := []) (by kernel_rfl)
  generalize w100.heap.size = bq at *
  have hsz := ((by assumption : Rel _ _ _ _ _)).keeps.size
  refine sim_box (e := 36) (x := .agg [.v (.pointer (some ⟨bq, 0, none⟩)), .v (.slice none 0 0)]) 0 (by kernel_rfl) (by kernel_rfl) (by assumption : Rel _ _ _ _ _) (by kernel_rfl) (fun ρ2 w2 hm2 e2 hR2 hb2 => ?_)
  have hag := hR2.ag_ 1 (by kernel_rfl)
  have hbox := hR2.rowW (cur := [.pointer (some ⟨bq, 0, none⟩), .slice none 0 0]) hb2
  have hj := hj.moved (hm2.castL (by kernel_rfl))
  refine sim_run 3 [] (hR2.cast (by kernel_rfl)) (by kernel_rfl) trivial (fun ρ200 w200 hm200 hR200 => ?_)
  have hag := hag.moved (hm200.castL (by kernel_rfl))
  have hbox := hbox.moved (hm200.castL (by kernel_rfl))
  have hj := hj.moved (hm200.castL (by kernel_rfl))
  refine sim_ret (.tup [.ptr 0 0, LI 0]) hR200 (by kernel_rfl) (by kernel_rfl) ?_
  
  have hlt := hj.is.lt
  refine ⟨⟨w102.heap.size, bq, gq, Aq, cq, none, 0⟩, by simp only [LV.den, denL, Nm.at_, hag.at_ 0 (by omega), e2, Nat.add_zero], ⟨?_, hj.is, World.ownsRow_nil _ _ _ _⟩, fun x hx => ?_, (by assumption : Rel _ _ _ _ _).toBelow⟩
  · exact hbox.full (n := 0) (cells := [.v (.pointer (some ⟨bq, 0, none⟩)), .v (.slice none 0 0)]) (wr := true) (by assumption : Rel _ _ _ _ _) hag (by kernel_rfl) e2 rfl
  · rcases hx with hx | hx | hx | ⟨a, ha, _⟩
    · rw [hx]; exact hsz
    · rw [hx]; exact hbs
    · rw [hx]; exact Nat.le_trans hbs hgq
    · cases ha
/-! ### of nil -/
section
variable (w : World)
set_option maxRecDepth 100000 in
theorem tryNil_any (A : Option Addr) (n cp : Nat) : Calls Try.prog 19 #[.pointer none, .slice A n cp] w fun e w' => e = .returned (.int .i64 1) ∧ Below w.heap.size w w' := by
  refine sim_enter Try.func19 ρ0 [.v (.pointer none), .v (.slice A n cp)] [] (by kernel_rfl) rfl ?_
  have hR := Rel.start [] w ρ0
  refine sim_run 16 [] (hR.cast (by kernel_rfl)) (by kernel_rfl) trivial (fun ρ1100 w1100 hm1100 hR1100 => ?_)
  refine sim_ret (LI 1) hR1100 (by kernel_rfl) (by kernel_rfl) ?_
  exact ⟨rfl, hR1100.toBelow⟩
  
set_option maxRecDepth 100000 in
theorem addNil_any (A : Option Addr) (n cp : Nat) : Calls Try.prog 11 #[.pointer none, .slice A n cp] w fun e w' => e = .returned (.int .i64 1) ∧ Below w.heap.size w w' := by
  refine sim_enter Try.func11 ρ0 [.v (.pointer none), .v (.slice A n cp)] [] (by kernel_rfl) rfl ?_
  have hR := Rel.start [] w ρ0
  refine sim_run 9 [] (hR.cast (by kernel_rfl)) (by kernel_rfl) trivial (fun ρ1200 w1200 hm1200 hR1200 => ?_)
  refine sim_call 19 [.v (Value.pointer none), .v (Value.slice A n cp)] (by kernel_rfl) ?_
  refine Calls.mono (tryNil_any _ _ _ _) ?_
  rintro e1201 w1201 ⟨rfl, hb1201⟩
  have hR1201 := hR1200.below hb1201
  refine Back.of (LI 1) hR1201 rfl ?_
  refine sim_run 13 [] (hR1201.cast (by kernel_rfl)) (by kernel_rfl) trivial (fun ρ1202 w1202 hm1202 hR1202 => ?_)
  refine sim_ret (LI 1) hR1202 (by kernel_rfl) (by kernel_rfl) ?_
  exact ⟨rfl, hR1202.toBelow⟩
  
set_option maxRecDepth 100000 in
theorem linksNil_any : Calls Try.prog 17 #[.pointer none] w fun e w' => e = .returned (.slice none 0 0) ∧ Below w.heap.size w w' := by
  refine sim_enter Try.func17 ρ0 [.v (.pointer none)] [] (by kernel_rfl) rfl ?_
  have hR := Rel.start [] w ρ0
  refine sim_run 15 [] (hR.cast (by kernel_rfl)) (by kernel_rfl) trivial (fun ρ1300 w1300 hm1300 hR1300 => ?_)
  refine sim_ret (.v (Value.slice none 0 0)) hR1300 (by kernel_rfl) (by kernel_rfl) ?_
  exact ⟨rfl, hR1300.toBelow⟩
  
set_option maxRecDepth 100000 in
theorem orderNil_any : Calls Try.prog 16 #[.pointer none] w fun e w' => e = .returned (.slice none 0 0) ∧ Below w.heap.size w w' := by
  refine sim_enter Try.func16 ρ0 [.v (.pointer none)] [] (by kernel_rfl) rfl ?_
  have hR := Rel.start [] w ρ0
  refine sim_run 15 [] (hR.cast (by kernel_rfl)) (by kernel_rfl) trivial (fun ρ1400 w1400 hm1400 hR1400 => ?_)
  refine sim_ret (.v (Value.slice none 0 0)) hR1400 (by kernel_rfl) (by kernel_rfl) ?_
  exact ⟨rfl, hR1400.toBelow⟩
  
set_option maxRecDepth 100000 in
theorem aheadNil_any (i : Int) : Calls Try.prog 12 #[.pointer none, .int .i64 i] w fun e w' => e = .returned (.slice none 0 0) ∧ Below w.heap.size w w' := by
  refine sim_enter Try.func12 ρ0 [.v (.pointer none), LI i] [] (by kernel_rfl) rfl ?_
  have hR := Rel.start [] w ρ0
  refine sim_run 24 [] (hR.cast (by kernel_rfl)) (by kernel_rfl) trivial (fun ρ1500 w1500 hm1500 hR1500 => ?_)
  refine sim_ret (.v (Value.slice none 0 0)) hR1500 (by kernel_rfl) (by kernel_rfl) ?_
  exact ⟨rfl, hR1500.toBelow⟩
  
set_option maxRecDepth 100000 in
theorem behindNil_any (i : Int) : Calls Try.prog 13 #[.pointer none, .int .i64 i] w fun e w' => e = .returned (.slice none 0 0) ∧ Below w.heap.size w w' := by
  refine sim_enter Try.func13 ρ0 [.v (.pointer none), LI i] [] (by kernel_rfl) rfl ?_
  have hR := Rel.start [] w ρ0
  refine sim_run 24 [] (hR.cast (by kernel_rfl)) (by kernel_rfl) trivial (fun ρ1600 w1600 hm1600 hR1600 => ?_)
  refine sim_ret (.v (Value.slice none 0 0)) hR1600 (by kernel_rfl) (by kernel_rfl) ?_
  exact ⟨rfl, hR1600.toBelow⟩
  
set_option maxRecDepth 100000 in
theorem growNil_any (i : Int) : Calls Try.prog 21 #[.pointer none, .int .i64 i] w fun e w' => e = .returned (.int .i64 1) ∧ Below w.heap.size w w' := by
  refine sim_enter Try.func21 ρ0 [.v (.pointer none), LI i] [] (by kernel_rfl) rfl ?_
  have hR := Rel.start [] w ρ0
  refine sim_run 15 [] (hR.cast (by kernel_rfl)) (by kernel_rfl) trivial (fun ρ1700 w1700 hm1700 hR1700 => ?_)
  refine sim_ret (LI 1) hR1700 (by kernel_rfl) (by kernel_rfl) ?_
  exact ⟨rfl, hR1700.toBelow⟩
  
end
end
end Go.Proofs.Ytnfgndapalkbcaa
