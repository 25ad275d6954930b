/-
  cmp.Compare at string; name.Compare; the order of texts.
-/
import Derived.Test.YtgbgedaedcofcaaSimO
import Derived.Test.YtgbgedaedcofcaaProg
import Derived.Test.YtgbgedaedcofcaaFork
namespace Go.Proofs.Ytgbgedaedcofcaa
open Go Go.RowKit
attribute [local irreducible] run goO goN ordGoN eqlOf eqlOper eqlOfO cellL leaveK someK nextK nextT nextOT nextOD loopBody loopRest loopK fillJ tmplOf tmplJ mergeT At AtO drawOk ordOf gateOf callC callO topOp topO idxOf appOf storeOf clearOf sliceOf calleeOf calleeO topQ idxQ newRowOf resL stepOp seek

def ltS (a b : ByteArray) : Bool := Op.bytesLess a.toList b.toList
def cmpS (a b : ByteArray) : Int := if ltS a b then -1 else if ltS b a then 1 else 0
theorem bl_irrefl : ∀ l : List UInt8, Op.bytesLess l l = false
  | [] => rfl
  | a :: l => by simp [Op.bytesLess, bl_irrefl l]
theorem bl_trans : ∀ {a b c : List UInt8}, Op.bytesLess a b = true → Op.bytesLess b c = true → Op.bytesLess a c = true
  | _, [], _, h, _ => by simp [Op.bytesLess] at h
  | _, _ :: _, [], _, h => by simp [Op.bytesLess] at h
  | [], _ :: _, _ :: _, _, _ => rfl
  | x :: a, y :: b, z :: c, h1, h2 => by
    simp only [Op.bytesLess, Bool.or_eq_true, Bool.and_eq_true, decide_eq_true_eq, beq_iff_eq] at *
    rcases h1 with h1 | ⟨rfl, h1⟩ <;> rcases h2 with h2 | ⟨rfl, h2⟩
    · exact .inl (UInt8.lt_trans h1 h2)
    · exact .inl h1
    · exact .inl h2
    · exact .inr ⟨rfl, bl_trans h1 h2⟩
theorem bl_total : ∀ {a b : List UInt8}, Op.bytesLess a b = false → Op.bytesLess b a = false → a = b
  | [], [], _, _ => rfl
  | [], _ :: _, h, _ => by simp [Op.bytesLess] at h
  | _ :: _, [], _, h => by simp [Op.bytesLess] at h
  | x :: a, y :: b, h1, h2 => by
    simp only [Op.bytesLess, Bool.or_eq_false_iff, Bool.and_eq_false_iff, decide_eq_false_iff_not, beq_eq_false_iff_ne] at *
    have e : x = y := UInt8.le_antisymm (UInt8.not_lt.1 h2.1) (UInt8.not_lt.1 h1.1)
    subst e
    rw [bl_total (h1.2.resolve_left (fun h => h rfl)) (h2.2.resolve_left (fun h => h rfl))]
theorem ltS_irrefl (a : ByteArray) : ltS a a = false := bl_irrefl _
theorem ltS_trans {a b c : ByteArray} (h : ltS a b = true) (h' : ltS b c = true) : ltS a c = true := bl_trans h h'
theorem ltS_total {a b : ByteArray} (h : ltS a b = false) (h' : ltS b a = false) : a = b := by
  have := bl_total h h'
  cases a; cases b; simp_all [ByteArray.toList_eq]
theorem gt_text (a b : ByteArray) : (!(Op.bytesLess a.toList b.toList || a.toList == b.toList)) = ltS b a := by
  cases h : ltS b a with
  | true =>
    have h1 : ltS a b = false := by
      cases hc : ltS a b with
      | false => rfl
      | true => have := ltS_trans h hc; rw [ltS_irrefl] at this; cases this
    unfold ltS at h1
    have h2 : (a.toList == b.toList) = false := by
      cases hc : (a.toList == b.toList) with
      | false => rfl
      | true =>
        have e := eq_of_beq hc
        unfold ltS at h
        rw [e, bl_irrefl] at h
        cases h
    rw [h1, h2]
    rfl
  | false =>
    cases h1 : ltS a b with
    | true =>
      unfold ltS at h1
      rw [h1]
      rfl
    | false =>
      have e := ltS_total h1 h
      subst e
      simp
set_option maxRecDepth 100000 in
theorem compareS_any (a b : ByteArray) (w : World) : Calls Try.prog 75 #[.string a, .string b] w fun e w' => e = .returned (.int .i64 (cmpS a b)) ∧ Below w.heap.size w w' := by
  refine sim_enter Try.func75 ρ0 [LS a, LS b] [] (by kernel_rfl) rfl ?_
  have hR := Rel.start [] w ρ0
  refine sim_run 7 [] (hR.cast (by kernel_rfl)) (by kernel_rfl) trivial (fun ρ100 w100 hm100 hR100 => ?_)
  refine sim_into Try.func87 [LS a] (by kernel_rfl) (by kernel_rfl) ?_
  have hag101 := hR100.ag_ 0 (by kernel_rfl)
  refine sim_run 11 [] (hR100.cast (by kernel_rfl)) (by kernel_rfl) trivial (fun ρ102 w102 hm102 hR102 => ?_)
  have hag101 := hag101.moved (hm102.castL (by kernel_rfl))
  refine sim_out 0 (LB (!a.toList == a.toList)) hR102 (by kernel_rfl) (by kernel_rfl) hag101.ag (by kernel_rfl) ?_
  refine sim_run 5 [] (hR102.cast (by kernel_rfl)) (by kernel_rfl) trivial (fun ρ103 w103 hm103 hR103 => ?_)
  have hag101 := hag101.moved (hm103.castL (by kernel_rfl))
  refine sim_into Try.func87 [LS b] (by kernel_rfl) (by kernel_rfl) ?_
  have hag104 := hR103.ag_ 0 (by kernel_rfl)
  refine sim_run 11 [] (hR103.cast (by kernel_rfl)) (by kernel_rfl) trivial (fun ρ105 w105 hm105 hR105 => ?_)
  have hag101 := hag101.moved (hm105.castL (by kernel_rfl))
  have hag104 := hag104.moved (hm105.castL (by kernel_rfl))
  refine sim_out 0 (LB (!b.toList == b.toList)) hR105 (by kernel_rfl) (by kernel_rfl) hag104.ag (by kernel_rfl) ?_
  refine sim_run 7 [] (hR105.cast (by kernel_rfl)) (by kernel_rfl) trivial (fun ρ106 w106 hm106 hR106 => ?_)
  have hag101 := hag101.moved (hm106.castL (by kernel_rfl))
  have hag104 := hag104.moved (hm106.castL (by kernel_rfl))
  refine sim_know 11 (!a.toList == a.toList) false (by kernel_rfl) (by simp) ?_
  refine sim_run 7 [] (hR106.cast (by kernel_rfl)) (by kernel_rfl) trivial (fun ρ107 w107 hm107 hR107 => ?_)
  have hag101 := hag101.moved (hm107.castL (by kernel_rfl))
  have hag104 := hag104.moved (hm107.castL (by kernel_rfl))
  refine sim_know 13 (!b.toList == b.toList) false (by kernel_rfl) (by simp) ?_
  refine sim_run 9 [] (hR107.cast (by kernel_rfl)) (by kernel_rfl) trivial (fun ρ108 w108 hm108 hR108 => ?_)
  have hag101 := hag101.moved (hm108.castL (by kernel_rfl))
  have hag104 := hag104.moved (hm108.castL (by kernel_rfl))
  refine sim_fork 16 (Op.bytesLess a.toList b.toList) (by kernel_rfl) (fun hq109 => ?_) (fun hq109 => ?_)
  refine sim_run 5 [] (hR108.cast (by kernel_rfl)) (by kernel_rfl) trivial (fun ρ110 w110 hm110 hR110 => ?_)
  have hag101 := hag101.moved (hm110.castL (by kernel_rfl))
  have hag104 := hag104.moved (hm110.castL (by kernel_rfl))
  refine sim_ret (LI (-1)) hR110 (by kernel_rfl) (by kernel_rfl) ?_
  rotate_left
  refine sim_run 9 [] (hR108.cast (by kernel_rfl)) (by kernel_rfl) trivial (fun ρ111 w111 hm111 hR111 => ?_)
  have hag101 := hag101.moved (hm111.castL (by kernel_rfl))
  have hag104 := hag104.moved (hm111.castL (by kernel_rfl))
  refine sim_fork 19 (!(Op.bytesLess a.toList b.toList || a.toList == b.toList)) (by kernel_rfl) (fun hq112 => ?_) (fun hq112 => ?_)
  have hq112 := nb_t hq112
  refine sim_run 5 [] (hR111.cast (by kernel_rfl)) (by kernel_rfl) trivial (fun ρ113 w113 hm113 hR113 => ?_)
  have hag101 := hag101.moved (hm113.castL (by kernel_rfl))
  have hag104 := hag104.moved (hm113.castL (by kernel_rfl))
  refine sim_ret (LI 1) hR113 (by kernel_rfl) (by kernel_rfl) ?_
  rotate_left
  have hq112 := nb_f hq112
  refine sim_run 6 [] (hR111.cast (by kernel_rfl)) (by kernel_rfl) trivial (fun ρ114 w114 hm114 hR114 => ?_)
  have hag101 := hag101.moved (hm114.castL (by kernel_rfl))
  have hag104 := hag104.moved (hm114.castL (by kernel_rfl))
  refine sim_ret (LI 0) hR114 (by kernel_rfl) (by kernel_rfl) ?_
  rotate_left
  
  · rw [show cmpS a b = -1 from if_pos hq109]
    exact ⟨rfl, ((by assumption : Rel _ _ _ _ _)).toBelow⟩
  · have h1 : ltS b a = true := by rw [← gt_text, hq112]; rfl
    rw [show cmpS a b = 1 from by unfold cmpS; rw [if_neg (by unfold ltS; rw [hq109]; simp), if_pos h1]]
    exact ⟨rfl, ((by assumption : Rel _ _ _ _ _)).toBelow⟩
  · have h1 : ltS b a = false := by rw [← gt_text, hq112]; rfl
    rw [show cmpS a b = 0 from by unfold cmpS; rw [if_neg (by unfold ltS; rw [hq109]; simp), if_neg (by rw [h1]; simp)]]
    exact ⟨rfl, ((by assumption : Rel _ _ _ _ _)).toBelow⟩
set_option maxRecDepth 100000 in
theorem nameCompare_any (a b : ByteArray) (w : World) : Calls Try.prog 53 #[.string a, .string b] w fun e w' => e = .returned (.int .i64 (cmpS a b)) ∧ Below w.heap.size w w' := by
  refine sim_enter Try.func53 ρ0 [LS a, LS b] [] (by kernel_rfl) rfl ?_
  have hR := Rel.start [] w ρ0
  refine sim_run 8 [] (hR.cast (by kernel_rfl)) (by kernel_rfl) trivial (fun ρ200 w200 hm200 hR200 => ?_)
  refine sim_call 75 [LS a, LS b] (by kernel_rfl) ?_
  refine Calls.mono (compareS_any _ _ _) ?_
  rintro e201 w201 ⟨rfl, hb201⟩
  have hR201 := hR200.below hb201
  refine Back.of (LI (cmpS a b)) hR201 rfl ?_
  refine sim_run 2 [] (hR201.cast (by kernel_rfl)) (by kernel_rfl) trivial (fun ρ202 w202 hm202 hR202 => ?_)
  refine sim_ret (LI (cmpS a b)) hR202 (by kernel_rfl) (by kernel_rfl) ?_
  exact ⟨rfl, hR202.toBelow⟩
  
end Go.Proofs.Ytgbgedaedcofcaa
