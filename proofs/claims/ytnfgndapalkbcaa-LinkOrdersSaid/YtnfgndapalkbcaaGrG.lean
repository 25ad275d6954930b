/-
  link.Try: what Add would answer.
-/
import Derived.Test.YtnfgndapalkbcaaGrF
import Derived.Test.YtnfgndapalkbcaaFnLk
namespace Go.Proofs.Ytnfgndapalkbcaa
open Go Go.RowKit
theorem is_enters : Enters Try.prog 37 := ⟨_, Try.func37, by kernel_rfl, by kernel_rfl⟩
theorem out_enters : Enters Try.prog 40 := ⟨_, Try.func40, by kernel_rfl, by kernel_rfl⟩
theorem bad_enters : Enters Try.prog 41 := ⟨_, Try.func41, by kernel_rfl, by kernel_rfl⟩
def outB (n : Nat) (x : Lk) : Bool := !(inL n x.src) || !(inL n x.dst)
def badB (x : Lk) : Bool := (!(decide (x.kind = 1)) && !(decide (x.kind = 2))) || decide (x.src = x.dst)
attribute [local irreducible] run goO leaveK someK nextK nextT nextOT nextOD loopBody loopRest loopK fillJ tmplOf tmplJ mergeT At AtO drawOk ordOf gateOf callC callO topOp topO idxOf appOf storeOf clearOf sliceOf calleeOf calleeO topQ idxQ newRowOf resL stepOp seek
set_option maxRecDepth 100000 in
set_option maxHeartbeats 4000000 in
theorem isG_any (q : GrP) (u : List Nat) (ls : List Lk) (gx ox : Nat) (i : Int) (w : World) (h : GrV q u ls w) (_ : u.length ≤ 1000) (hc : w.cell? ⟨gx, ox, none⟩ = some (.pointer (some ⟨q.b, 0, none⟩))) :
    Calls Try.prog 37 #[.int .i64 i, .pointer (some ⟨gx, ox + 0, none⟩)] w fun e w' => e = .returned (.bool (inL u.length i)) ∧ Below w.heap.size w w' := by
  obtain ⟨ρ1, e0, hR1⟩ := h.open_ false [] (by simp)
  obtain ⟨ρ, a2, e1, hR⟩ := hR1.open_ (by kernel_rfl) gx ox [.ptr 0 0] (by kernel_rfl) false (World.block_lt_of_cell? _ _ hc) (fun j x hx => by
    match j, hx with
    | 0, hx =>
      simp only [List.getElem?_cons_zero, Option.some.injEq] at hx
      subst hx
      simp only [LV.den, Nm.at_, e0]
      exact hc
    | j + 1, hx => simp at hx) (fun h => by cases h) (fun n r hn hw he => by
    rcases hw with hw | hw
    · cases hw
    · exact (noW1 (ρ := ρ1) ⟨n, r, hn, hw, he⟩).elim)
  have e1 : ρ 1 = (gx, ox) := e1
  have e0 := (a2 0 (by show 0 < 1; omega)).trans e0
  have hs := h.sta (ρ := ρ) (rs := [⟨(q.cells ls.length).map .v, false⟩, ⟨[.ptr 0 0], false⟩]) (by kernel_rfl)
  refine sim_enter Try.func37 ρ [LI i, .ptr 1 0] [⟨(q.cells ls.length).map .v, false⟩, ⟨[.ptr 0 0], false⟩] (by kernel_rfl) (by simp only [denL, LV.den, Nm.at_, e1]) ?_
  have hR := hR.cast rfl
  by_cases h1 : 1 ≤ i
  · refine sim_run 9 [] (hR.cast (by kernel_rfl)) (by kernel_rfl) trivial (fun ρ100 w100 hm100 hR100 => ?_)
    have hs := hs.moved (hm100.castL (by kernel_rfl))
    refine sim_know 6 (decide (i ≥ 1)) true (by kernel_rfl) (decide_eq_true (by omega)) ?_
    refine sim_run 5 [] (hR100.cast (by kernel_rfl)) (by kernel_rfl) trivial (fun ρ101 w101 hm101 hR101 => ?_)
    have hs := hs.moved (hm101.castL (by kernel_rfl))
    refine sim_call 38 [.v (Value.pointer (some (Addr.mk q.pb 0 none)))] (by kernel_rfl) ?_
    refine Calls.mono (ufLen_b hs.is.uf) ?_
    rintro e102 w102 ⟨rfl, hb102⟩
    have hR102 := hR101.below hb102
    have hs := hs.below hb102
    refine Back.of (LI ((↑u.length : Int))) hR102 rfl ?_
    refine sim_run 4 [] (hR102.cast (by kernel_rfl)) (by kernel_rfl) trivial (fun ρ103 w103 hm103 hR103 => ?_)
    have hs := hs.moved (hm103.castL (by kernel_rfl))
    refine sim_ret (LB (decide (i ≤ (↑u.length : Int)))) hR103 (by kernel_rfl) (by kernel_rfl) ?_
    
    exact ⟨retv_bool (by unfold inL; rw [decide_eq_true h1, Bool.true_and]), (by assumption : Rel _ _ _ _ _).toBelow⟩
  · refine sim_run 9 [] (hR.cast (by kernel_rfl)) (by kernel_rfl) trivial (fun ρ300 w300 hm300 hR300 => ?_)
    have hs := hs.moved (hm300.castL (by kernel_rfl))
    refine sim_know 6 (decide (i ≥ 1)) false (by kernel_rfl) (decide_eq_false (by omega)) ?_
    refine sim_run 10 [] (hR300.cast (by kernel_rfl)) (by kernel_rfl) trivial (fun ρ301 w301 hm301 hR301 => ?_)
    have hs := hs.moved (hm301.castL (by kernel_rfl))
    refine sim_ret (LB false) hR301 (by kernel_rfl) (by kernel_rfl) ?_
    
    exact ⟨retv_bool (by unfold inL; rw [decide_eq_false h1]; rfl), (by assumption : Rel _ _ _ _ _).toBelow⟩
set_option maxRecDepth 100000 in
set_option maxHeartbeats 4000000 in
theorem outG_any (q : GrP) (u : List Nat) (ls : List Lk) (gx ox gi oi : Nat) (x : Lk) (w : World) (h : GrV q u ls w) (hu : u.length ≤ 1000) (hc : w.cell? ⟨gx, ox, none⟩ = some (.pointer (some ⟨q.b, 0, none⟩))) (hi : w.cell? ⟨gi, oi, none⟩ = some (.func (.func 37) #[] #[.pointer (some ⟨gx, ox + 0, none⟩)])) :
    Calls Try.prog 40 #[.agg x.cells.toArray, .pointer (some ⟨gi, oi + 0, none⟩)] w fun e w' => e = .returned (.bool (outB u.length x)) ∧ Below w.heap.size w w' := by
  obtain ⟨ρ, _, e0, hR⟩ := open_cell (Rel.start [] w ρ0) rfl (by kernel_rfl) gi oi _ hi
  have e0 : ρ 0 = (gi, oi) := e0
  have hs := h.sta (ρ := ρ) (rs := [⟨[.v (.func (.func 37) #[] #[.pointer (some ⟨gx, ox + 0, none⟩)])], false⟩]) (by kernel_rfl)
  refine sim_enter Try.func40 ρ [.agg [LI x.kind, LI x.src, LI x.dst], .ptr 0 0] [⟨[.v (.func (.func 37) #[] #[.pointer (some ⟨gx, ox + 0, none⟩)])], false⟩] (by kernel_rfl) (by simp only [denL, LV.den, Nm.at_, e0]; rfl) ?_
  have hR := hR.cast rfl
  have hcg : ∀ w2, Below w.heap.size w w2 → w2.cell? ⟨gx, ox, none⟩ = some (.pointer (some ⟨q.b, 0, none⟩)) := fun w2 hb => (hb.cell (p := ⟨gx, ox, none⟩) (World.block_lt_of_cell? _ _ hc)).trans hc
  refine sim_run 10 [] (hR.cast (by kernel_rfl)) (by kernel_rfl) trivial (fun ρ400 w400 hm400 hR400 => ?_)
  have hs := hs.moved (hm400.castL (by kernel_rfl))
  refine sim_call 37 [LI x.src, .v (Value.pointer (some (Addr.mk gx (ox + 0) none)))] (by kernel_rfl) ?_
  refine Calls.mono (isG_any (q) (u) (ls) _ _ _ _ hs.is (by assumption) (hcg _ (hR400).toBelow)) ?_
  rintro e401 w401 ⟨rfl, hb401⟩
  have hR401 := hR400.below hb401
  have hs := hs.below hb401
  refine Back.of (LB (inL u.length x.src)) hR401 rfl ?_
  refine sim_run 2 [] (hR401.cast (by kernel_rfl)) (by kernel_rfl) trivial (fun ρ402 w402 hm402 hR402 => ?_)
  have hs := hs.moved (hm402.castL (by kernel_rfl))
  refine sim_fork 9 (!inL u.length x.src) (by kernel_rfl) (fun hq403 => ?_) (fun hq403 => ?_)
  have hq403 := nb_t hq403
  refine sim_run 8 [] (hR402.cast (by kernel_rfl)) (by kernel_rfl) trivial (fun ρ404 w404 hm404 hR404 => ?_)
  have hs := hs.moved (hm404.castL (by kernel_rfl))
  refine sim_ret (LB true) hR404 (by kernel_rfl) (by kernel_rfl) ?_
  rotate_left
  have hq403 := nb_f hq403
  refine sim_run 3 [] (hR402.cast (by kernel_rfl)) (by kernel_rfl) trivial (fun ρ405 w405 hm405 hR405 => ?_)
  have hs := hs.moved (hm405.castL (by kernel_rfl))
  refine sim_call 37 [LI x.dst, .v (Value.pointer (some (Addr.mk gx (ox + 0) none)))] (by kernel_rfl) ?_
  refine Calls.mono (isG_any (q) (u) (ls) _ _ _ _ hs.is (by assumption) (hcg _ (hR405).toBelow)) ?_
  rintro e406 w406 ⟨rfl, hb406⟩
  have hR406 := hR405.below hb406
  have hs := hs.below hb406
  refine Back.of (LB (inL u.length x.dst)) hR406 rfl ?_
  refine sim_run 4 [] (hR406.cast (by kernel_rfl)) (by kernel_rfl) trivial (fun ρ407 w407 hm407 hR407 => ?_)
  have hs := hs.moved (hm407.castL (by kernel_rfl))
  refine sim_ret (LB (!inL u.length x.dst)) hR407 (by kernel_rfl) (by kernel_rfl) ?_
  rotate_left
  
  all_goals first
    | exact ⟨retv_bool (by unfold outB; rw [(by assumption : inL u.length x.src = false)]; rfl), (by assumption : Rel _ _ _ _ _).toBelow⟩
    | exact ⟨retv_bool (by unfold outB; rw [(by assumption : inL u.length x.src = true)]; rfl), (by assumption : Rel _ _ _ _ _).toBelow⟩
set_option maxRecDepth 100000 in
set_option maxHeartbeats 4000000 in
theorem badG_any (x : Lk) (w : World) : Calls Try.prog 41 #[.agg x.cells.toArray] w fun e w' => e = .returned (.bool (badB x)) ∧ Below w.heap.size w w' := by
  refine sim_enter Try.func41 ρ0 [.agg [LI x.kind, LI x.src, LI x.dst]] [] (by kernel_rfl) rfl ?_
  have hR := Rel.start [] w ρ0
  refine sim_run 11 [] (hR.cast (by kernel_rfl)) (by kernel_rfl) trivial (fun ρ600 w600 hm600 hR600 => ?_)
  refine sim_fork 6 (x.kind != 1) (by kernel_rfl) (fun hq601 => ?_) (fun hq601 => ?_)
  have hq601 := nb_t hq601
  have hq601 := of_decide_eq_false hq601
  refine sim_run 5 [] (hR600.cast (by kernel_rfl)) (by kernel_rfl) trivial (fun ρ602 w602 hm602 hR602 => ?_)
  refine sim_fork 11 (x.kind != 2) (by kernel_rfl) (fun hq603 => ?_) (fun hq603 => ?_)
  have hq603 := nb_t hq603
  have hq603 := of_decide_eq_false hq603
  refine sim_run 8 [] (hR602.cast (by kernel_rfl)) (by kernel_rfl) trivial (fun ρ604 w604 hm604 hR604 => ?_)
  refine sim_ret (LB true) hR604 (by kernel_rfl) (by kernel_rfl) ?_
  rotate_left
  have hq603 := nb_f hq603
  have hq603 := of_decide_eq_true hq603
  refine sim_run 8 [] (hR602.cast (by kernel_rfl)) (by kernel_rfl) trivial (fun ρ605 w605 hm605 hR605 => ?_)
  refine sim_ret (LB (x.src == x.dst)) hR605 (by kernel_rfl) (by kernel_rfl) ?_
  rotate_left
  have hq601 := nb_f hq601
  have hq601 := of_decide_eq_true hq601
  refine sim_run 13 [] (hR600.cast (by kernel_rfl)) (by kernel_rfl) trivial (fun ρ606 w606 hm606 hR606 => ?_)
  refine sim_ret (LB (x.src == x.dst)) hR606 (by kernel_rfl) (by kernel_rfl) ?_
  rotate_left
  
  · exact ⟨retv_bool (by unfold badB; rw [decide_eq_false (by assumption), decide_eq_false (by assumption)]; rfl), (by assumption : Rel _ _ _ _ _).toBelow⟩
  · exact ⟨retv_bool (by unfold badB; rw [decide_eq_false (by assumption), decide_eq_true (by assumption)]; simp only [Bool.not_true, Bool.and_false, Bool.false_or]; rfl), (by assumption : Rel _ _ _ _ _).toBelow⟩
  · exact ⟨retv_bool (by unfold badB; rw [decide_eq_true (by assumption)]; simp only [Bool.not_true, Bool.false_and, Bool.false_or]; rfl), (by assumption : Rel _ _ _ _ _).toBelow⟩
theorem out_pred {T : List Nat} {w0 w : World} {ρ : Nm} {rs : List Reg} {q : GrP} {u : List Nat} {ls : List Lk} (hR : Rel T w0 ρ rs w) (hs : Sta q.has (GrV q u ls) ρ rs w) (e0 : ρ 0 = (q.b, 0)) (hu : u.length ≤ 1000) {b1 b2 : Bool} (h1 : rs[1]? = some ⟨[.ptr 0 0], b1⟩) (h2 : rs[2]? = some ⟨[.fnv (.func 37) [] [.ptr 1 0]], b2⟩) (l : List Lk) : PredLk w 40 #[.pointer (some ⟨(ρ 2).1, (ρ 2).2 + 0, none⟩)] (outB u.length) l := by
  intro x w1 _ hb
  have c1 := hR.cell 1 _ h1 0 _ rfl
  have c2 := hR.cell 2 _ h2 0 _ rfl
  simp only [LV.den, Nm.at_, e0] at c1
  have k1 := (hb.cell (World.block_lt_of_cell? _ _ c1)).trans c1
  have k2 := (hb.cell (World.block_lt_of_cell? _ _ c2)).trans c2
  exact outG_any q u ls _ _ _ _ x w1 (hs.is.below hb) hu k1 k2
theorem containsOut_any (caps : Array Value) (m : Nat) (A : Option Addr) (n cp B : Nat) (l : List Lk) (w : World) (h : Reads w B 3 A n (lkV l)) (hl : l.length = n) (hB : B ≤ w.heap.size) (hn : n ≤ 100000) (hp : PredLk w 40 caps (outB m) l) :
    Calls Try.prog 39 #[.slice A n cp, .func (.func 40) #[] caps] w fun e w' => e = .returned (.bool (outL m l)) ∧ Below w.heap.size w w' := containsFLk_any _ out_enters caps (outB m) A n cp B l w h hl hB hn hp
theorem containsBad_any (A : Option Addr) (n cp B : Nat) (l : List Lk) (w : World) (h : Reads w B 3 A n (lkV l)) (hl : l.length = n) (hB : B ≤ w.heap.size) (hn : n ≤ 100000) :
    Calls Try.prog 39 #[.slice A n cp, .func (.func 41) #[] #[]] w fun e w' => e = .returned (.bool (badL l)) ∧ Below w.heap.size w w' := containsFLk_any _ bad_enters #[] badB A n cp B l w h hl hB hn (fun x w1 _ _ => badG_any x w1)
theorem tryM_long {u : List Nat} {ls l : List Lk} (h : 120 < ls.length + l.length) : tryM u ls l = 2 := by unfold tryM; rw [if_pos h]
theorem tryM_out {u : List Nat} {ls l : List Lk} (h : ¬ 120 < ls.length + l.length) (h2 : outL u.length l = true) : tryM u ls l = 3 := by unfold tryM; rw [if_neg h, if_pos h2]
theorem tryM_bad {u : List Nat} {ls l : List Lk} (h : ¬ 120 < ls.length + l.length) (h2 : outL u.length l = false) (h3 : badL l = true) : tryM u ls l = 1 := by unfold tryM; rw [if_neg h, h2, if_neg (by simp), if_pos h3]
theorem tryM_full {u : List Nat} {ls l : List Lk} (h : ¬ 120 < ls.length + l.length) (h2 : outL u.length l = false) (h3 : badL l = false) : tryM u ls l = if Uf.fullB (Uf.joinedM u l) (ls ++ l) = true then 0 else 24 := by unfold tryM; rw [if_neg h, h2, if_neg (by simp), h3, if_neg (by simp)]
set_option maxRecDepth 100000 in
set_option maxHeartbeats 4000000 in
theorem try_any (q : GrP) (u : List Nat) (ls : List Lk) (A : Option Addr) (n cp B : Nat) (l : List Lk) (w : World) (h : GrV q u ls w) (hi : GInv u ls) (hl : Reads w B 3 A n (lkV l)) (hB : B ≤ w.heap.size) (hn : n ≤ 10000) :
    Calls Try.prog 19 #[.pointer (some ⟨q.b, 0, none⟩), .slice A n cp] w fun e w' => e = .returned (.int .i64 (tryM u ls l)) ∧ Below w.heap.size w w' := by
  have hll := lkV_num hl
  have hu := hi.le
  have hfew := hi.few
  obtain ⟨ρ, e0, hR⟩ := h.open_ false [] (by simp)
  have hs := h.sta (ρ := ρ) (rs := [⟨(q.cells ls.length).map .v, false⟩]) (by kernel_rfl)
  refine sim_enter Try.func19 ρ [.ptr 0 0, .v (.slice A n cp)] [⟨(q.cells ls.length).map .v, false⟩] (by kernel_rfl) (by simp only [denL, LV.den, Nm.at_, e0]) ?_
  have hag := hR.ag_ 1 (by kernel_rfl)
  by_cases h1 : 120 < ls.length + n
  · rw [tryM_long (by omega)]
    refine sim_run 34 [⟨4, 7, LI (IntKind.i64.wrap ((↑ls.length : Int) + (↑n : Int))), LI ((↑ls.length : Int) + (↑n : Int))⟩] (hR.cast (by kernel_rfl)) (by kernel_rfl) ⟨eqi (IntWalk.i64_in _ (by omega)), trivial⟩ (fun ρ700 w700 hm700 hR700 => ?_)
    have hs := hs.moved (hm700.castL (by kernel_rfl))
    have hag := hag.moved (hm700.castL (by kernel_rfl))
    refine sim_know 9 (decide ((↑ls.length : Int) + (↑n : Int) > 120)) true (by kernel_rfl) (decide_eq_true (by omega)) ?_
    refine sim_run 5 [] (hR700.cast (by kernel_rfl)) (by kernel_rfl) trivial (fun ρ701 w701 hm701 hR701 => ?_)
    have hs := hs.moved (hm701.castL (by kernel_rfl))
    have hag := hag.moved (hm701.castL (by kernel_rfl))
    refine sim_ret (LI 2) hR701 (by kernel_rfl) (by kernel_rfl) ?_
    exact ⟨rfl, hR701.toBelow⟩
    
  · have h120 : ¬ 120 < ls.length + l.length := by omega
    have hn2 : n ≤ 100000 := by omega
    have hls2 : ls.length ≤ 10000 := by omega
    have hW := True.intro
    cases ho : outL u.length l with
    | true =>
      rw [tryM_out h120 ho]
      refine sim_run 34 [⟨4, 7, LI (IntKind.i64.wrap ((↑ls.length : Int) + (↑n : Int))), LI ((↑ls.length : Int) + (↑n : Int))⟩] (hR.cast (by kernel_rfl)) (by kernel_rfl) ⟨eqi (IntWalk.i64_in _ (by omega)), trivial⟩ (fun ρ800 w800 hm800 hR800 => ?_)
      have hs := hs.moved (hm800.castL (by kernel_rfl))
      have hag := hag.moved (hm800.castL (by kernel_rfl))
      refine sim_know 9 (decide ((↑ls.length : Int) + (↑n : Int) > 120)) false (by kernel_rfl) (decide_eq_false (by omega)) ?_
      refine sim_run 5 [] (hR800.cast (by kernel_rfl)) (by kernel_rfl) trivial (fun ρ801 w801 hm801 hR801 => ?_)
      have hs := hs.moved (hm801.castL (by kernel_rfl))
      have hag := hag.moved (hm801.castL (by kernel_rfl))
      refine sim_call 39 [.v (Value.slice A n cp), .fnv (Fn.func 40) [] [.ptr 2 0]] (by kernel_rfl) ?_
      refine Calls.mono (containsOut_any _ (u.length) (A) (n) (cp) (B) (l) _ ((hl.belowW ((by assumption : Rel _ _ _ _ _)).toBelow hB)) (hll) ((Nat.le_trans hB ((by assumption : Rel _ _ _ _ _)).keeps.size)) (hn2) ((out_pred ((by assumption : Rel _ _ _ _ _)) hs ((hag.at_ 0 (by omega)).trans e0) hu (b1 := true) (b2 := true) (by kernel_rfl) (by kernel_rfl) l))) ?_
      rw [ho]
      rintro e802 w802 ⟨rfl, hb802⟩
      have hR802 := (hR801).below hb802
      have hs := hs.below hb802
      refine Back.of (LB true) hR802 rfl ?_
      refine sim_run 7 [] (hR802.cast (by kernel_rfl)) (by kernel_rfl) trivial (fun ρ803 w803 hm803 hR803 => ?_)
      have hag := hag.moved (hm803.castL (by kernel_rfl))
      have hs := hs.moved (hm803.castL (by kernel_rfl))
      refine sim_ret (LI 3) hR803 (by kernel_rfl) (by kernel_rfl) ?_
      exact ⟨rfl, hR803.toBelow⟩
      
    | false =>
      cases hb : badL l with
      | true =>
        rw [tryM_bad h120 ho hb]
        refine sim_run 34 [⟨4, 7, LI (IntKind.i64.wrap ((↑ls.length : Int) + (↑n : Int))), LI ((↑ls.length : Int) + (↑n : Int))⟩] (hR.cast (by kernel_rfl)) (by kernel_rfl) ⟨eqi (IntWalk.i64_in _ (by omega)), trivial⟩ (fun ρ900 w900 hm900 hR900 => ?_)
        have hs := hs.moved (hm900.castL (by kernel_rfl))
        have hag := hag.moved (hm900.castL (by kernel_rfl))
        refine sim_know 9 (decide ((↑ls.length : Int) + (↑n : Int) > 120)) false (by kernel_rfl) (decide_eq_false (by omega)) ?_
        refine sim_run 5 [] (hR900.cast (by kernel_rfl)) (by kernel_rfl) trivial (fun ρ901 w901 hm901 hR901 => ?_)
        have hs := hs.moved (hm901.castL (by kernel_rfl))
        have hag := hag.moved (hm901.castL (by kernel_rfl))
        refine sim_call 39 [.v (Value.slice A n cp), .fnv (Fn.func 40) [] [.ptr 2 0]] (by kernel_rfl) ?_
        refine Calls.mono (containsOut_any _ (u.length) (A) (n) (cp) (B) (l) _ ((hl.belowW ((by assumption : Rel _ _ _ _ _)).toBelow hB)) (hll) ((Nat.le_trans hB ((by assumption : Rel _ _ _ _ _)).keeps.size)) (hn2) ((out_pred ((by assumption : Rel _ _ _ _ _)) hs ((hag.at_ 0 (by omega)).trans e0) hu (b1 := true) (b2 := true) (by kernel_rfl) (by kernel_rfl) l))) ?_
        rw [ho]
        rintro e902 w902 ⟨rfl, hb902⟩
        have hR902 := (hR901).below hb902
        have hs := hs.below hb902
        refine Back.of (LB false) hR902 rfl ?_
        refine sim_run 6 [] (hR902.cast (by kernel_rfl)) (by kernel_rfl) trivial (fun ρ903 w903 hm903 hR903 => ?_)
        have hag := hag.moved (hm903.castL (by kernel_rfl))
        have hs := hs.moved (hm903.castL (by kernel_rfl))
        refine sim_call 39 [.v (Value.slice A n cp), .v (Value.func (Fn.func 41) (Array.mk []) (Array.mk []))] (by kernel_rfl) ?_
        refine Calls.mono (containsBad_any (A) (n) (cp) (B) (l) _ ((hl.belowW ((by assumption : Rel _ _ _ _ _)).toBelow hB)) (hll) ((Nat.le_trans hB ((by assumption : Rel _ _ _ _ _)).keeps.size)) (hn2)) ?_
        rw [hb]
        rintro e904 w904 ⟨rfl, hb904⟩
        have hR904 := (hR903).below hb904
        have hs := hs.below hb904
        refine Back.of (LB true) hR904 rfl ?_
        refine sim_run 7 [] (hR904.cast (by kernel_rfl)) (by kernel_rfl) trivial (fun ρ905 w905 hm905 hR905 => ?_)
        have hag := hag.moved (hm905.castL (by kernel_rfl))
        have hs := hs.moved (hm905.castL (by kernel_rfl))
        refine sim_ret (LI 1) hR905 (by kernel_rfl) (by kernel_rfl) ?_
        exact ⟨rfl, hR905.toBelow⟩
        
      | false =>
        rw [tryM_full h120 ho hb]
        have hin := inL_of ho
        have hu2 := hi.inl
        have hgg := hi.good
        cases hf : Uf.fullB (Uf.joinedM u l) (ls ++ l) with
        | true =>
          refine sim_run 34 [⟨4, 7, LI (IntKind.i64.wrap ((↑ls.length : Int) + (↑n : Int))), LI ((↑ls.length : Int) + (↑n : Int))⟩] (hR.cast (by kernel_rfl)) (by kernel_rfl) ⟨eqi (IntWalk.i64_in _ (by omega)), trivial⟩ (fun ρ1000 w1000 hm1000 hR1000 => ?_)
          have hs := hs.moved (hm1000.castL (by kernel_rfl))
          have hag := hag.moved (hm1000.castL (by kernel_rfl))
          refine sim_know 9 (decide ((↑ls.length : Int) + (↑n : Int) > 120)) false (by kernel_rfl) (decide_eq_false (by omega)) ?_
          refine sim_run 5 [] (hR1000.cast (by kernel_rfl)) (by kernel_rfl) trivial (fun ρ1001 w1001 hm1001 hR1001 => ?_)
          have hs := hs.moved (hm1001.castL (by kernel_rfl))
          have hag := hag.moved (hm1001.castL (by kernel_rfl))
          refine sim_call 39 [.v (Value.slice A n cp), .fnv (Fn.func 40) [] [.ptr 2 0]] (by kernel_rfl) ?_
          refine Calls.mono (containsOut_any _ (u.length) (A) (n) (cp) (B) (l) _ ((hl.belowW ((by assumption : Rel _ _ _ _ _)).toBelow hB)) (hll) ((Nat.le_trans hB ((by assumption : Rel _ _ _ _ _)).keeps.size)) (hn2) ((out_pred ((by assumption : Rel _ _ _ _ _)) hs ((hag.at_ 0 (by omega)).trans e0) hu (b1 := true) (b2 := true) (by kernel_rfl) (by kernel_rfl) l))) ?_
          rw [ho]
          rintro e1002 w1002 ⟨rfl, hb1002⟩
          have hR1002 := (hR1001).below hb1002
          have hs := hs.below hb1002
          refine Back.of (LB false) hR1002 rfl ?_
          refine sim_run 6 [] (hR1002.cast (by kernel_rfl)) (by kernel_rfl) trivial (fun ρ1003 w1003 hm1003 hR1003 => ?_)
          have hag := hag.moved (hm1003.castL (by kernel_rfl))
          have hs := hs.moved (hm1003.castL (by kernel_rfl))
          refine sim_call 39 [.v (Value.slice A n cp), .v (Value.func (Fn.func 41) (Array.mk []) (Array.mk []))] (by kernel_rfl) ?_
          refine Calls.mono (containsBad_any (A) (n) (cp) (B) (l) _ ((hl.belowW ((by assumption : Rel _ _ _ _ _)).toBelow hB)) (hll) ((Nat.le_trans hB ((by assumption : Rel _ _ _ _ _)).keeps.size)) (hn2)) ?_
          rw [hb]
          rintro e1004 w1004 ⟨rfl, hb1004⟩
          have hR1004 := (hR1003).below hb1004
          have hs := hs.below hb1004
          refine Back.of (LB false) hR1004 rfl ?_
          refine sim_run 10 [] (hR1004.cast (by kernel_rfl)) (by kernel_rfl) trivial (fun ρ1005 w1005 hm1005 hR1005 => ?_)
          have hag := hag.moved (hm1005.castL (by kernel_rfl))
          have hs := hs.moved (hm1005.castL (by kernel_rfl))
          refine sim_call 42 [.ptr 0 0, .v (Value.slice A n cp)] (by kernel_rfl) ?_
          have ez0_1006 := (hag.at_ 0 (by omega)).trans e0
          simp only [denL, LV.den, Nm.at_, ez0_1006, Nat.add_zero]
          refine Calls.mono (circle_any (q) (u) (ls) (A) (n) (cp) (B) (l) _ (hs.is) (hgg) (hu) (hu2) (hls2) ((hl.belowW ((by assumption : Rel _ _ _ _ _)).toBelow hB)) ((Nat.le_trans hB ((by assumption : Rel _ _ _ _ _)).keeps.size)) (hn) (hin)) ?_
          rw [hf]
          rintro e1006 w1006 ⟨rfl, hb1006⟩
          have hR1006 := (hR1005).below hb1006
          have hs := hs.below hb1006
          refine Back.of (LB false) hR1006 rfl ?_
          refine sim_run 7 [] (hR1006.cast (by kernel_rfl)) (by kernel_rfl) trivial (fun ρ1007 w1007 hm1007 hR1007 => ?_)
          have hag := hag.moved (hm1007.castL (by kernel_rfl))
          have hs := hs.moved (hm1007.castL (by kernel_rfl))
          refine sim_ret (LI 0) hR1007 (by kernel_rfl) (by kernel_rfl) ?_
          exact ⟨rfl, hR1007.toBelow⟩
          
        | false =>
          refine sim_run 34 [⟨4, 7, LI (IntKind.i64.wrap ((↑ls.length : Int) + (↑n : Int))), LI ((↑ls.length : Int) + (↑n : Int))⟩] (hR.cast (by kernel_rfl)) (by kernel_rfl) ⟨eqi (IntWalk.i64_in _ (by omega)), trivial⟩ (fun ρ1100 w1100 hm1100 hR1100 => ?_)
          have hs := hs.moved (hm1100.castL (by kernel_rfl))
          have hag := hag.moved (hm1100.castL (by kernel_rfl))
          refine sim_know 9 (decide ((↑ls.length : Int) + (↑n : Int) > 120)) false (by kernel_rfl) (decide_eq_false (by omega)) ?_
          refine sim_run 5 [] (hR1100.cast (by kernel_rfl)) (by kernel_rfl) trivial (fun ρ1101 w1101 hm1101 hR1101 => ?_)
          have hs := hs.moved (hm1101.castL (by kernel_rfl))
          have hag := hag.moved (hm1101.castL (by kernel_rfl))
          refine sim_call 39 [.v (Value.slice A n cp), .fnv (Fn.func 40) [] [.ptr 2 0]] (by kernel_rfl) ?_
          refine Calls.mono (containsOut_any _ (u.length) (A) (n) (cp) (B) (l) _ ((hl.belowW ((by assumption : Rel _ _ _ _ _)).toBelow hB)) (hll) ((Nat.le_trans hB ((by assumption : Rel _ _ _ _ _)).keeps.size)) (hn2) ((out_pred ((by assumption : Rel _ _ _ _ _)) hs ((hag.at_ 0 (by omega)).trans e0) hu (b1 := true) (b2 := true) (by kernel_rfl) (by kernel_rfl) l))) ?_
          rw [ho]
          rintro e1102 w1102 ⟨rfl, hb1102⟩
          have hR1102 := (hR1101).below hb1102
          have hs := hs.below hb1102
          refine Back.of (LB false) hR1102 rfl ?_
          refine sim_run 6 [] (hR1102.cast (by kernel_rfl)) (by kernel_rfl) trivial (fun ρ1103 w1103 hm1103 hR1103 => ?_)
          have hag := hag.moved (hm1103.castL (by kernel_rfl))
          have hs := hs.moved (hm1103.castL (by kernel_rfl))
          refine sim_call 39 [.v (Value.slice A n cp), .v (Value.func (Fn.func 41) (Array.mk []) (Array.mk []))] (by kernel_rfl) ?_
          refine Calls.mono (containsBad_any (A) (n) (cp) (B) (l) _ ((hl.belowW ((by assumption : Rel _ _ _ _ _)).toBelow hB)) (hll) ((Nat.le_trans hB ((by assumption : Rel _ _ _ _ _)).keeps.size)) (hn2)) ?_
          rw [hb]
          rintro e1104 w1104 ⟨rfl, hb1104⟩
          have hR1104 := (hR1103).below hb1104
          have hs := hs.below hb1104
          refine Back.of (LB false) hR1104 rfl ?_
          refine sim_run 10 [] (hR1104.cast (by kernel_rfl)) (by kernel_rfl) trivial (fun ρ1105 w1105 hm1105 hR1105 => ?_)
          have hag := hag.moved (hm1105.castL (by kernel_rfl))
          have hs := hs.moved (hm1105.castL (by kernel_rfl))
          refine sim_call 42 [.ptr 0 0, .v (Value.slice A n cp)] (by kernel_rfl) ?_
          have ez0_1106 := (hag.at_ 0 (by omega)).trans e0
          simp only [denL, LV.den, Nm.at_, ez0_1106, Nat.add_zero]
          refine Calls.mono (circle_any (q) (u) (ls) (A) (n) (cp) (B) (l) _ (hs.is) (hgg) (hu) (hu2) (hls2) ((hl.belowW ((by assumption : Rel _ _ _ _ _)).toBelow hB)) ((Nat.le_trans hB ((by assumption : Rel _ _ _ _ _)).keeps.size)) (hn) (hin)) ?_
          rw [hf]
          rintro e1106 w1106 ⟨rfl, hb1106⟩
          have hR1106 := (hR1105).below hb1106
          have hs := hs.below hb1106
          refine Back.of (LB true) hR1106 rfl ?_
          refine sim_run 6 [] (hR1106.cast (by kernel_rfl)) (by kernel_rfl) trivial (fun ρ1107 w1107 hm1107 hR1107 => ?_)
          have hag := hag.moved (hm1107.castL (by kernel_rfl))
          have hs := hs.moved (hm1107.castL (by kernel_rfl))
          refine sim_ret (LI 24) hR1107 (by kernel_rfl) (by kernel_rfl) ?_
          exact ⟨rfl, hR1107.toBelow⟩
          
end Go.Proofs.Ytnfgndapalkbcaa
