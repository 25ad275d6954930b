/-
  cmp.Compare at string; name.Compare; the order of texts.
  cmp.Or at two ints.
  cmp.Compare at string, name.Compare, cmp.Or at two ints: the world stands.
  pos.Before: what it answers, and the blocks that it lays.
-/
import Derived.Test.YtgbgedaedcofcaaSimO
import Derived.Test.YtgbgedaedcofcaaProg
import Derived.Test.YtgbgedaedcofcaaFork
import Derived.Test.YtgbgedaedcofcaaSimHN
import Derived.IntWalk
import Derived.Test.YtgbgedaedcofcaaOrds
import Derived.Deep.CutBlock
import Derived.Deep.CutRange
import Derived.Test.YtgbgedaedcofcaaPosAC
import Derived.Sort.Grow
namespace Go.Proofs.Ytgbgedaedcofcaa
section
open Go Go.RowKit
attribute [local irreducible] run goO goN ordGoN eqlOf eqlOper eqlOfO cellL leaveK someK nextK nextT nextOT nextOD loopBody loopRest loopK fillJ tmplOf tmplJ mergeT At AtO drawOk ordOf gateOf callC callO topOp topO idxOf appOf storeOf clearOf sliceOf calleeOf calleeO topQ idxQ newRowOf resL stepOp seek

def ltS (a b : ByteArray) : Bool := Op.bytesLess a.toList b.toList
def cmpS (a b : ByteArray) : Int := if ltS a b then -1 else if ltS b a then 1 else 0
theorem bl_irrefl : ∀ l : List UInt8, Op.bytesLess l l = false
  | [] => rfl
  | a :: l => by simp [Op.bytesLess, bl_irrefl l]
theorem bl_trans : ∀ {a b c : List UInt8}, Op.bytesLess a b = true → Op.bytesLess b c = true → Op.bytesLess a c = true
  | _, [], _, h, _ => by simp [Op.bytesLess] at h
  | _, _ :: _, [], _, h => by simp [Op.bytesLess] at h
  | [], _ :: _, _ :: _, _, _ => rfl
  | x :: a, y :: b, z :: c, h1, h2 => by
    simp only [Op.bytesLess, Bool.or_eq_true, Bool.and_eq_true, decide_eq_true_eq, beq_iff_eq] at *
    rcases h1 with h1 | ⟨rfl, h1⟩ <;> rcases h2 with h2 | ⟨rfl, h2⟩
    · exact .inl (UInt8.lt_trans h1 h2)
    · exact .inl h1
    · exact .inl h2
    · exact .inr ⟨rfl, bl_trans h1 h2⟩
theorem bl_total : ∀ {a b : List UInt8}, Op.bytesLess a b = false → Op.bytesLess b a = false → a = b
  | [], [], _, _ => rfl
  | [], _ :: _, h, _ => by simp [Op.bytesLess] at h
  | _ :: _, [], _, h => by simp [Op.bytesLess] at h
  | x :: a, y :: b, h1, h2 => by
    simp only [Op.bytesLess, Bool.or_eq_false_iff, Bool.and_eq_false_iff, decide_eq_false_iff_not, beq_eq_false_iff_ne] at *
    have e : x = y := UInt8.le_antisymm (UInt8.not_lt.1 h2.1) (UInt8.not_lt.1 h1.1)
    subst e
    rw [bl_total (h1.2.resolve_left (fun h => h rfl)) (h2.2.resolve_left (fun h => h rfl))]
theorem ltS_irrefl (a : ByteArray) : ltS a a = false := bl_irrefl _
theorem ltS_trans {a b c : ByteArray} (h : ltS a b = true) (h' : ltS b c = true) : ltS a c = true := bl_trans h h'
theorem ltS_total {a b : ByteArray} (h : ltS a b = false) (h' : ltS b a = false) : a = b := by
  have := bl_total h h'
  cases a; cases b; simp_all [ByteArray.toList_eq]
theorem gt_text (a b : ByteArray) : (!(Op.bytesLess a.toList b.toList || a.toList == b.toList)) = ltS b a := by
  cases h : ltS b a with
  | true =>
    have h1 : ltS a b = false := by
      cases hc : ltS a b with
      | false => rfl
      | true => have := ltS_trans h hc; rw [ltS_irrefl] at this; cases this
    unfold ltS at h1
    have h2 : (a.toList == b.toList) = false := by
      cases hc : (a.toList == b.toList) with
      | false => rfl
      | true =>
        have e := eq_of_beq hc
        unfold ltS at h
        rw [e, bl_irrefl] at h
        cases h
    rw [h1, h2]
    rfl
  | false =>
    cases h1 : ltS a b with
    | true =>
      unfold ltS at h1
      rw [h1]
      rfl
    | false =>
      have e := ltS_total h1 h
      subst e
      simp
set_option maxRecDepth 100000 in
theorem compareS_any (a b : ByteArray) (w : World) : Calls Try.prog 75 #[.string a, .string b] w fun e w' => e = .returned (.int .i64 (cmpS a b)) ∧ Below w.heap.size w w' := by
  refine sim_enter Try.func75 ρ0 [LS a, LS b] [] (by kernel_rfl) rfl ?_
  have hR := Rel.start [] w ρ0
  refine sim_run 7 [] (hR.cast (by kernel_rfl)) (by kernel_rfl) trivial (fun ρ100 w100 hm100 hR100 => ?_)
  refine sim_into Try.func87 [LS a] (by kernel_rfl) (by kernel_rfl) ?_
  have hag101 := hR100.ag_ 0 (by kernel_rfl)
  refine sim_run 11 [] (hR100.cast (by kernel_rfl)) (by kernel_rfl) trivial (fun ρ102 w102 hm102 hR102 => ?_)
  have hag101 := hag101.moved (hm102.castL (by kernel_rfl))
  refine sim_out 0 (LB (!a.toList == a.toList)) hR102 (by kernel_rfl) (by kernel_rfl) hag101.ag (by kernel_rfl) ?_
  refine sim_run 5 [] (hR102.cast (by kernel_rfl)) (by kernel_rfl) trivial (fun ρ103 w103 hm103 hR103 => ?_)
  have hag101 := hag101.moved (hm103.castL (by kernel_rfl))
  refine sim_into Try.func87 [LS b] (by kernel_rfl) (by kernel_rfl) ?_
  have hag104 := hR103.ag_ 0 (by kernel_rfl)
  refine sim_run 11 [] (hR103.cast (by kernel_rfl)) (by kernel_rfl) trivial (fun ρ105 w105 hm105 hR105 => ?_)
  have hag101 := hag101.moved (hm105.castL (by kernel_rfl))
  have hag104 := hag104.moved (hm105.castL (by kernel_rfl))
  refine sim_out 0 (LB (!b.toList == b.toList)) hR105 (by kernel_rfl) (by kernel_rfl) hag104.ag (by kernel_rfl) ?_
  refine sim_run 7 [] (hR105.cast (by kernel_rfl)) (by kernel_rfl) trivial (fun ρ106 w106 hm106 hR106 => ?_)
  have hag101 := hag101.moved (hm106.castL (by kernel_rfl))
  have hag104 := hag104.moved (hm106.castL (by kernel_rfl))
  refine sim_know 11 (!a.toList == a.toList) false (by kernel_rfl) (by simp) ?_
  refine sim_run 7 [] (hR106.cast (by kernel_rfl)) (by kernel_rfl) trivial (fun ρ107 w107 hm107 hR107 => ?_)
  have hag101 := hag101.moved (hm107.castL (by kernel_rfl))
  have hag104 := hag104.moved (hm107.castL (by kernel_rfl))
  refine sim_know 13 (!b.toList == b.toList) false (by kernel_rfl) (by simp) ?_
  refine sim_run 9 [] (hR107.cast (by kernel_rfl)) (by kernel_rfl) trivial (fun ρ108 w108 hm108 hR108 => ?_)
  have hag101 := hag101.moved (hm108.castL (by kernel_rfl))
  have hag104 := hag104.moved (hm108.castL (by kernel_rfl))
  refine sim_fork 16 (Op.bytesLess a.toList b.toList) (by kernel_rfl) (fun hq109 => ?_) (fun hq109 => ?_)
  refine sim_run 5 [] (hR108.cast (by kernel_rfl)) (by kernel_rfl) trivial (fun ρ110 w110 hm110 hR110 => ?_)
  have hag101 := hag101.moved (hm110.castL (by kernel_rfl))
  have hag104 := hag104.moved (hm110.castL (by kernel_rfl))
  refine sim_ret (LI (-1)) hR110 (by kernel_rfl) (by kernel_rfl) ?_
  rotate_left
  refine sim_run 9 [] (hR108.cast (by kernel_rfl)) (by kernel_rfl) trivial (fun ρ111 w111 hm111 hR111 => ?_)
  have hag101 := hag101.moved (hm111.castL (by kernel_rfl))
  have hag104 := hag104.moved (hm111.castL (by kernel_rfl))
  refine sim_fork 19 (!(Op.bytesLess a.toList b.toList || a.toList == b.toList)) (by kernel_rfl) (fun hq112 => ?_) (fun hq112 => ?_)
  have hq112 := nb_t hq112
  refine sim_run 5 [] (hR111.cast (by kernel_rfl)) (by kernel_rfl) trivial (fun ρ113 w113 hm113 hR113 => ?_)
  have hag101 := hag101.moved (hm113.castL (by kernel_rfl))
  have hag104 := hag104.moved (hm113.castL (by kernel_rfl))
  refine sim_ret (LI 1) hR113 (by kernel_rfl) (by kernel_rfl) ?_
  rotate_left
  have hq112 := nb_f hq112
  refine sim_run 6 [] (hR111.cast (by kernel_rfl)) (by kernel_rfl) trivial (fun ρ114 w114 hm114 hR114 => ?_)
  have hag101 := hag101.moved (hm114.castL (by kernel_rfl))
  have hag104 := hag104.moved (hm114.castL (by kernel_rfl))
  refine sim_ret (LI 0) hR114 (by kernel_rfl) (by kernel_rfl) ?_
  rotate_left
  
  · rw [show cmpS a b = -1 from if_pos hq109]
    exact ⟨rfl, ((by assumption : Rel _ _ _ _ _)).toBelow⟩
  · have h1 : ltS b a = true := by rw [← gt_text, hq112]; rfl
    rw [show cmpS a b = 1 from by unfold cmpS; rw [if_neg (by unfold ltS; rw [hq109]; simp), if_pos h1]]
    exact ⟨rfl, ((by assumption : Rel _ _ _ _ _)).toBelow⟩
  · have h1 : ltS b a = false := by rw [← gt_text, hq112]; rfl
    rw [show cmpS a b = 0 from by unfold cmpS; rw [if_neg (by unfold ltS; rw [hq109]; simp), if_neg (by rw [h1]; simp)]]
    exact ⟨rfl, ((by assumption : Rel _ _ _ _ _)).toBelow⟩
set_option maxRecDepth 100000 in
theorem nameCompare_any (a b : ByteArray) (w : World) : Calls Try.prog 53 #[.string a, .string b] w fun e w' => e = .returned (.int .i64 (cmpS a b)) ∧ Below w.heap.size w w' := by
  refine sim_enter Try.func53 ρ0 [LS a, LS b] [] (by kernel_rfl) rfl ?_
  have hR := Rel.start [] w ρ0
  refine sim_run 8 [] (hR.cast (by kernel_rfl)) (by kernel_rfl) trivial (fun ρ200 w200 hm200 hR200 => ?_)
  refine sim_call 75 [LS a, LS b] (by kernel_rfl) ?_
  refine Calls.mono (compareS_any _ _ _) ?_
  rintro e201 w201 ⟨rfl, hb201⟩
  have hR201 := hR200.below hb201
  refine Back.of (LI (cmpS a b)) hR201 rfl ?_
  refine sim_run 2 [] (hR201.cast (by kernel_rfl)) (by kernel_rfl) trivial (fun ρ202 w202 hm202 hR202 => ?_)
  refine sim_ret (LI (cmpS a b)) hR202 (by kernel_rfl) (by kernel_rfl) ?_
  exact ⟨rfl, hR202.toBelow⟩
  
end

section
open Go Go.RowKit
attribute [local irreducible] run goO goN ordGoN eqlOf eqlOper eqlOfO cellL leaveK someK nextK nextT nextOT nextOD loopBody loopRest loopK fillJ tmplOf tmplJ mergeT At AtO drawOk ordOf gateOf callC callO topOp topO idxOf appOf storeOf clearOf sliceOf calleeOf calleeO topQ idxQ newRowOf resL stepOp seek

def orZ (a b : Int) : Int := if a = 0 then b else a
set_option maxRecDepth 100000 in
/-- the first of two ints that is not 0; they lie in one place of the caller's -/
theorem or_any (a b : Int) (g o : Nat) (w : World) (h0 : w.cell? ⟨g, o + 0, none⟩ = some (.int .i64 a)) (h1 : w.cell? ⟨g, o + 1, none⟩ = some (.int .i64 b)) : Calls Try.prog 52 #[.slice (some ⟨g, o + 0, none⟩) 2 2] w fun e w' => e = .returned (.int .i64 (orZ a b)) ∧ Below w.heap.size w w' := by
  obtain ⟨ρ, _, hn, hR⟩ := (Rel.start [] w ρ0).open_ rfl g o [LI a, LI b] rfl false (World.block_lt_of_cell? _ _ h0) (fun i v hv => by
    match i, hv with
    | 0, hv => injection hv with hv; rw [← hv]; exact h0
    | 1, hv => injection hv with hv; rw [← hv]; exact h1) (fun h => by cases h) (fun n r hn => by simp at hn)
  have hn0 : ρ 0 = (g, o) := hn
  refine sim_enter Try.func52 ρ [.slc 0 0 2 2] [⟨[LI a, LI b], false⟩] (by kernel_rfl) (by simp only [denL, LV.den, Nm.at_, hn0]) ?_
  refine sim_run 1000 [] (hR.cast rfl) (by kernel_rfl) trivial (fun ρ1 w1 hm1 hR1 => ?_)
  refine sim_unroll 10 (by kernel_rfl) ?_
  refine sim_run 1000 [] hR1 (by kernel_rfl) trivial (fun ρ2 w2 hm2 hR2 => ?_)
  refine sim_idx 0 0 2 2 0 1 (by kernel_rfl) (by decide) ?_
  by_cases ha : a = 0
  · refine sim_run 1000 [⟨5, 2, LB (a != 0), LB false⟩] hR2 (by kernel_rfl) ⟨eqb (by simp [ha]), trivial⟩ (fun ρ3 w3 hm3 hR3 => ?_)
    refine sim_idx 0 0 2 2 1 1 (by kernel_rfl) (by decide) ?_
    have e : orZ a b = b := if_pos ha
    by_cases hb : b = 0
    · refine sim_run 1000 [⟨5, 2, LB (b != 0), LB false⟩] hR3 (by kernel_rfl) ⟨eqb (by simp [hb]), trivial⟩ (fun ρ4 w4 hm4 hR4 => ?_)
      refine sim_ret (LI 0) hR4 (by kernel_rfl) (by kernel_rfl) ⟨by rw [e, hb]; rfl, hR4.toBelow⟩
    · refine sim_run 1000 [⟨5, 2, LB (b != 0), LB true⟩] hR3 (by kernel_rfl) ⟨eqb (by simp [hb]), trivial⟩ (fun ρ4 w4 hm4 hR4 => ?_)
      refine sim_ret (LI b) hR4 (by kernel_rfl) (by kernel_rfl) ⟨by rw [e]; rfl, hR4.toBelow⟩
  · refine sim_run 1000 [⟨5, 2, LB (a != 0), LB true⟩] hR2 (by kernel_rfl) ⟨eqb (by simp [ha]), trivial⟩ (fun ρ3 w3 hm3 hR3 => ?_)
    refine sim_ret (LI a) hR3 (by kernel_rfl) (by kernel_rfl) ⟨by rw [show orZ a b = a from if_neg ha]; rfl, hR3.toBelow⟩
end

section
open Go Go.RowKit

theorem isNaNS_x (a : ByteArray) (w : World) : Calls Try.prog 87 #[.string a] w fun e w' => e = .returned (.bool false) ∧ w = w' := by
  have HE := Lib.hid (show (!(a.toList == a.toList)) = false by simp)
  go_enter Try.func87, Try.ntmps87
  go_wp2_with (first | rw [HE.out])
  go_ret
  exact ⟨ret_bool (by simp), rfl⟩
set_option maxRecDepth 100000 in
theorem compareS_x (a b : ByteArray) (w : World) : Calls Try.prog 75 #[.string a, .string b] w fun e w' => e = .returned (.int .i64 (cmpS a b)) ∧ w = w' := by
  have ha := fun w => isNaNS_x a w
  have hb := fun w => isNaNS_x b w
  go_enter Try.func75, Try.ntmps75
  go_wp2_with (go_at_call 87; first | (refine (ha _).mono ?_; rintro e w' ⟨rfl, rfl⟩) | (refine (hb _).mono ?_; rintro e w' ⟨rfl, rfl⟩))
  · rename_i h1
    go_ret
    exact ⟨ret_int (show cmpS a b = -1 from if_pos h1).symm, rfl⟩
  · rename_i h1 _ _ h2
    have hg : ltS b a = true := by rw [← gt_text, h1]; simpa using h2
    go_ret
    exact ⟨ret_int (show cmpS a b = 1 by unfold cmpS; rw [if_neg (by unfold ltS; rw [h1]; simp), if_pos hg]).symm, rfl⟩
  · rename_i h1 h2
    have hg : ltS b a = false := by rw [← gt_text, h1]; simpa using h2
    go_ret
    exact ⟨ret_int (show cmpS a b = 0 by unfold cmpS; rw [if_neg (by unfold ltS; rw [h1]; simp), if_neg (by rw [hg]; simp)]).symm, rfl⟩
set_option maxRecDepth 100000 in
theorem nameCompare_x (a b : ByteArray) (w : World) : Calls Try.prog 53 #[.string a, .string b] w fun e w' => e = .returned (.int .i64 (cmpS a b)) ∧ w = w' := by
  have ha := fun w => compareS_x a b w
  go_enter Try.func53, Try.ntmps53
  go_wp2_with (go_at_call 75; refine (ha _).mono ?_; rintro e w' ⟨rfl, rfl⟩)
  go_ret
  exact ⟨rfl, rfl⟩
end

section
open Go Go.RowKit

/-- the first of two ints that is not 0 -/
theorem or_x (a b : Int) (g : Nat) (w : World) (h0 : w.cell? ⟨g, 0, none⟩ = some (.int .i64 a)) (h1 : w.cell? ⟨g, 1, none⟩ = some (.int .i64 b)) : Calls Try.prog 52 #[.slice (some ⟨g, 0, none⟩) 2 2] w fun e w' => e = .returned (.int .i64 (orZ a b)) ∧ w = w' := by
  have H0 := Lib.hid h0
  have H1 := Lib.hid h1
  clear h0 h1
  by_cases ha : a = 0
  · subst ha
    by_cases hb : b = 0
    · subst hb
      go_enter Try.func52, Try.ntmps52
      go_wp2
      refine wp_loop_rounds 3 ?_
      rw [rounds_succ]
      go_wp2_with (first | rw [H0.out] | rw [H1.out])
      rw [rounds_succ]
      go_wp2_with (first | rw [H0.out] | rw [H1.out])
      rw [rounds_succ]
      go_wp2_with (first | rw [H0.out] | rw [H1.out])
      go_ret
      exact ⟨rfl, rfl⟩
    · have HB := Lib.hid hb
      clear hb
      go_enter Try.func52, Try.ntmps52
      go_wp2
      refine wp_loop_rounds 3 ?_
      rw [rounds_succ]
      go_wp2_with (first | rw [H0.out] | rw [H1.out])
      rw [rounds_succ]
      go_wp2_with (first | rw [H0.out] | rw [H1.out])
      · go_ret
        exact ⟨ret_int (by unfold orZ; rw [if_pos rfl]), rfl⟩
      · rename_i h
        exact absurd (by simpa using h) HB.out
  · have HA := Lib.hid ha
    clear ha
    go_enter Try.func52, Try.ntmps52
    go_wp2
    refine wp_loop_rounds 3 ?_
    rw [rounds_succ]
    go_wp2_with (first | rw [H0.out] | rw [H1.out])
    · go_ret
      exact ⟨ret_int (by unfold orZ; rw [if_neg HA.out]), rfl⟩
    · rename_i h
      exact absurd (by simpa using h) HA.out
open Go.Sort
theorem grow3 (w : World) (a b c : Obj) : (((w.alloc a).alloc b).alloc c).drew = grow (w.drewN 1) #[a, b, c] := by
  have e : ((w.heap.push a).push b).push c = w.heap ++ #[a, b, c] := by apply Array.ext'; simp
  show ({ w with heap := ((w.heap.push a).push b).push c, drawn := w.drawn + 1 } : World) = { w with heap := w.heap ++ #[a, b, c], drawn := w.drawn + 1 }
  rw [e]
abbrev cmpK (a b : Key) : Int := orZ (cmpS a.1 b.1) (cmpS a.2 b.2)
set_option maxRecDepth 100000 in
set_option maxHeartbeats 4000000 in
theorem before_x (x y : Key) (w : World) : Calls Try.prog 39 #[.agg #[.string x.1, .string x.2], .agg #[.string y.1, .string y.2]] w fun e w' => e = .returned (.int .i64 (cmpK x y)) ∧ ∃ q os', w' = grow (w.drewN q) os' := by
  obtain ⟨a, c⟩ := x
  obtain ⟨b, d⟩ := y
  dsimp only
  have h1 := fun w => nameCompare_x a b w
  have h2 := fun w => nameCompare_x c d w
  go_enter Try.func39, Try.ntmps39
  go_wp2
  refine wp_region_ord ((0, false) :: (1, false) :: (2, false) :: (3, false) :: (5, false) :: (6, false) :: (7, false) :: (8, false) :: (4, true) :: (9, true) :: (10, true) :: (11, true) :: (12, false) :: []) (fun w' => ((w'.cell? ⟨w.heap.size, 0, none⟩ = some (.string a) ∧ w'.cell? ⟨w.heap.size, 1, none⟩ = some (.string c)) ∧ (w'.cell? ⟨w.heap.size + 1, 0, none⟩ = some (.string b) ∧ w'.cell? ⟨w.heap.size + 1, 1, none⟩ = some (.string d)))) (by kernel_rfl) (by kernel_rfl) (by kernel_rfl) (by kernel_rfl) (fun _ _ d _ _ h => by cases d <;> exact h) ?_ (fun hHeld => ?_)
  · refine ⟨⟨?_, ?_⟩, ?_, ?_⟩ <;> go_simp
  iterate 8 (first | (refine wpOrd_skip (by simp only [List.getElem?_toArray, List.getElem?_cons_succ, List.getElem?_cons_zero]; rfl) (by rfl) ?_; (simp only [Act.put, List.setIfInBounds_toArray, List.set_cons_zero, List.set_cons_succ])) | (refine wpOrd_take (v := ?_) (by simp only [List.getElem?_toArray, List.getElem?_cons_succ, List.getElem?_cons_zero]; rfl) (by rfl) ?_ ?_; rotate_left; (· (intro w hSw; (try dsimp only at hSw); go_simp; try with_reducible rfl)); (simp only [Act.put, List.setIfInBounds_toArray, List.set_cons_zero, List.set_cons_succ])))
  refine wpOrd_alone (by simp only [List.getElem?_toArray, List.getElem?_cons_succ, List.getElem?_cons_zero]; rfl) (fun K hK => ?_)
  go_simp
  (go_at_call 53; refine (h1 _).mono ?_; rintro e w' ⟨rfl, rfl⟩)
  refine hK.out _ _ hHeld (fun hHeld => ?_)
  clear hK K
  refine wpOrd_alone (by simp only [List.getElem?_toArray, List.getElem?_cons_succ, List.getElem?_cons_zero]; rfl) (fun K hK => ?_)
  go_simp
  (go_at_call 53; refine (h2 _).mono ?_; rintro e w' ⟨rfl, rfl⟩)
  refine hK.out _ _ hHeld (fun hHeld => ?_)
  clear hK K
  refine wpOrd_alone (by simp only [List.getElem?_toArray, List.getElem?_cons_succ, List.getElem?_cons_zero]; rfl) (fun K hK => ?_)
  go_simp
  refine hK.out _ _ (by refine ⟨⟨?_, ?_⟩, ?_, ?_⟩ <;> go_simp) (fun hHeld => ?_)
  clear hK K
  refine wpOrd_alone (by simp only [List.getElem?_toArray, List.getElem?_cons_succ, List.getElem?_cons_zero]; rfl) (fun K hK => ?_)
  go_simp
  (go_at_call 52; refine (or_x (cmpS a b) (cmpS c d) (w.heap.size + 1 + 1) _ (by go_simp) (by go_simp)).mono ?_; rintro e w' ⟨rfl, rfl⟩)
  refine hK.out _ _ hHeld (fun hHeld => ?_)
  clear hK K
  iterate 1 (first | (refine wpOrd_skip (by simp only [List.getElem?_toArray, List.getElem?_cons_succ, List.getElem?_cons_zero]; rfl) (by rfl) ?_; (simp only [Act.put, List.setIfInBounds_toArray, List.set_cons_zero, List.set_cons_succ])) | (refine wpOrd_take (v := ?_) (by simp only [List.getElem?_toArray, List.getElem?_cons_succ, List.getElem?_cons_zero]; rfl) (by rfl) ?_ ?_; rotate_left; (· (intro w hSw; (try dsimp only at hSw); go_simp; try with_reducible rfl)); (simp only [Act.put, List.setIfInBounds_toArray, List.set_cons_zero, List.set_cons_succ])))
  refine wpOrd_done ?_
  go_wp2_with fail
  go_ret
  exact ⟨rfl, 1, #[.cells #[.string a, .string c] 24, .cells #[.string b, .string d] 24, .cells #[.int .i64 (cmpS a b), .int .i64 (cmpS c d)] 3], grow3 ..⟩
end
end Go.Proofs.Ytgbgedaedcofcaa
