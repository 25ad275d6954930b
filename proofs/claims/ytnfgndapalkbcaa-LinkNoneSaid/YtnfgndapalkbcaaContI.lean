/-
  slices.Index, slices.Contains at int.
-/
import Derived.Test.YtnfgndapalkbcaaFnI
namespace Go.Proofs.Ytnfgndapalkbcaa
open Go Go.RowKit
attribute [local irreducible] run goO leaveK someK nextK nextT nextOT nextOD loopBody loopRest loopK fillJ tmplOf tmplJ mergeT At AtO drawOk ordOf gateOf callC callO topOp topO idxOf appOf storeOf clearOf sliceOf calleeOf calleeO topQ idxQ newRowOf resL stepOp seek

/-- where a number stands first, or -1 -/
def idxI (x : Int) : List Int → Nat → Int
  | [], _ => -1
  | a :: l, i => if x = a then (i : Int) else idxI x l (i + 1)
theorem idxI_ge (x : Int) : ∀ (l : List Int) (i : Nat), decide (0 ≤ idxI x l i) = l.contains x
  | [], _ => rfl
  | a :: l, i => by
    rw [Bool.eq_iff_iff, decide_eq_true_iff, List.contains_cons, Bool.or_eq_true, ← idxI_ge x l (i + 1), decide_eq_true_iff, beq_iff_eq]
    show (0 ≤ if x = a then (i : Int) else idxI x l (i + 1)) ↔ _
    by_cases h : x = a
    · rw [if_pos h]
      exact ⟨fun _ => .inl h, fun _ => by omega⟩
    · rw [if_neg h]
      exact ⟨.inr, fun h' => h'.resolve_left h⟩
theorem idxI_here {x : Int} {l : List Int} {k : Nat} {a : Int} (h : l[k]? = some a) : idxI x (l.drop k) k = if x = a then (k : Int) else idxI x (l.drop (k + 1)) (k + 1) := by
  have hk := (List.getElem?_eq_some_iff.1 h)
  obtain ⟨hlt, he⟩ := hk
  rw [← List.getElem_cons_drop hlt, he]
  rfl
set_option maxRecDepth 100000 in
set_option maxHeartbeats 4000000 in
theorem indexI_any (A : Option Addr) (n cp B : Nat) (l : List Int) (x : Int) (w : World) (h : Reads w B 1 A n (ints l)) (hB : B ≤ w.heap.size) (hn : n ≤ 4611686018427387904) :
    Calls Try.prog 55 #[.slice A n cp, .int .i64 x] w fun e w' => e = .returned (.int .i64 (idxI x l 0)) ∧ Below w.heap.size w w' := by
  have hl : l.length = n := h.int_len
  refine sim_enter Try.func55 ρ0 [.v (.slice A n cp), LI x] [] (by kernel_rfl) rfl ?_
  have hR := Rel.start [] w ρ0
  refine sim_run 12 [] (hR.cast (by kernel_rfl)) (by kernel_rfl) trivial (fun ρ100 w100 hm100 hR100 => ?_)
  
  refine sim_loop (ι := Nat) (T := []) (w0 := w) 0 [0, 1, 4, 6, 7] (fun k => [(8, LI k)]) (fun _ => []) (fun k _ => k ≤ n ∧ idxI x l 0 = idxI x (l.drop k) k) (fun k => n - k) (by kernel_rfl) (by kernel_rfl) (hR100.cast (by kernel_rfl)) ⟨Nat.zero_le _, rfl⟩ ?_
  clear hR hm100 hR100
  rintro k d w2 hR2 ⟨hk, hs⟩
  by_cases hlt : k < n
  · obtain ⟨ga, oa, rfl, _, _⟩ := h.spot (by omega) (by omega)
    obtain ⟨a, ha⟩ : ∃ a, l[k]? = some a := ⟨_, List.getElem?_eq_getElem (by omega)⟩
    rw [idxI_here ha] at hs
    by_cases he : a = x
    · rw [if_pos he.symm] at hs
      refine sim_run 5 [] (hR2.cast (by kernel_rfl)) (by kernel_rfl) trivial (fun ρ200 w200 hm200 hR200 => ?_)
      refine sim_know 9 (decide ((↑k : Int) < (↑n : Int))) true (by kernel_rfl) (decide_eq_true (by omega)) ?_
      refine sim_run 14 [] (hR200.cast (by kernel_rfl)) (by kernel_rfl) trivial (fun ρ201 w201 hm201 hR201 => ?_)
      refine sim_cell cp k 0 (.int .i64 a) (by kernel_rfl) (by kernel_rfl) hlt h (ints_get ha) hB (by simp) hR201 (by kernel_rfl) (fun ρ202 hm202 hf202 hR202 => ?_)
      refine sim_run 3 [] (hR202.cast (by kernel_rfl)) (by kernel_rfl) trivial (fun ρ203 w203 hm203 hR203 => ?_)
      refine sim_know 16 (x == a) true (by kernel_rfl) (decide_eq_true (by omega)) ?_
      refine sim_run 6 [] (hR203.cast (by kernel_rfl)) (by kernel_rfl) trivial (fun ρ204 w204 hm204 hR204 => ?_)
      refine sim_ret (LI ((↑k : Int))) hR204 (by kernel_rfl) (by kernel_rfl) ?_
      exact ⟨retv_int (by clear hR204 hm204 hR203 hm203 hR202 hm202 hR201 hm201 hR200 hm200 hR2; grind []), hR204.toBelow⟩
      
    · rw [if_neg (fun e => he e.symm)] at hs
      refine sim_run 5 [] (hR2.cast (by kernel_rfl)) (by kernel_rfl) trivial (fun ρ300 w300 hm300 hR300 => ?_)
      refine sim_know 9 (decide ((↑k : Int) < (↑n : Int))) true (by kernel_rfl) (decide_eq_true (by omega)) ?_
      refine sim_run 14 [] (hR300.cast (by kernel_rfl)) (by kernel_rfl) trivial (fun ρ301 w301 hm301 hR301 => ?_)
      refine sim_cell cp k 0 (.int .i64 a) (by kernel_rfl) (by kernel_rfl) hlt h (ints_get ha) hB (by simp) hR301 (by kernel_rfl) (fun ρ302 hm302 hf302 hR302 => ?_)
      refine sim_run 3 [] (hR302.cast (by kernel_rfl)) (by kernel_rfl) trivial (fun ρ303 w303 hm303 hR303 => ?_)
      refine sim_know 16 (x == a) false (by kernel_rfl) (decide_eq_false (by omega)) ?_
      refine sim_run 7 [⟨6, 0, LI (IntKind.i64.wrap ((↑k : Int) + 1)), LI ((↑k : Int) + 1)⟩] (hR303.cast (by kernel_rfl)) (by kernel_rfl) ⟨eqi (IntWalk.i64_in _ (by omega)), trivial⟩ (fun ρ304 w304 hm304 hR304 => ?_)
      
      exact sim_again (k + 1) (by kernel_rfl) (by show n - (k + 1) < n - k; omega) (by kernel_rfl) (by kernel_rfl) (by kernel_rfl) (fun m hm => by simp at hm) (by assumption : Rel _ _ _ _ _) (by kernel_rfl) (by kernel_rfl) ⟨hlt, hs⟩
  · refine sim_run 5 [] (hR2.cast (by kernel_rfl)) (by kernel_rfl) trivial (fun ρ400 w400 hm400 hR400 => ?_)
    refine sim_know 9 (decide ((↑k : Int) < (↑n : Int))) false (by kernel_rfl) (decide_eq_false (by omega)) ?_
    refine sim_run 1 [] (hR400.cast (by kernel_rfl)) (by kernel_rfl) trivial (fun ρ401 w401 hm401 hR401 => ?_)
    refine sim_leave (by kernel_rfl) ?_
    refine sim_run 4 [] (hR401.cast (by kernel_rfl)) (by kernel_rfl) trivial (fun ρ402 w402 hm402 hR402 => ?_)
    refine sim_ret (LI (-1)) hR402 (by kernel_rfl) (by kernel_rfl) ?_
    
    have hkn : k = n := by omega
    rw [hkn, ← hl, List.drop_length] at hs
    exact ⟨retv_int (hs.trans rfl).symm, ((by assumption : Rel _ _ _ _ _)).toBelow⟩
set_option maxRecDepth 100000 in
set_option maxHeartbeats 4000000 in
theorem containsI_any (A : Option Addr) (n cp B : Nat) (l : List Int) (x : Int) (w : World) (h : Reads w B 1 A n (ints l)) (hB : B ≤ w.heap.size) (hn : n ≤ 4611686018427387904) :
    Calls Try.prog 33 #[.slice A n cp, .int .i64 x] w fun e w' => e = .returned (.bool (l.contains x)) ∧ Below w.heap.size w w' := by
  refine sim_enter Try.func33 ρ0 [.v (.slice A n cp), LI x] [] (by kernel_rfl) rfl ?_
  have hR := Rel.start [] w ρ0
  refine sim_run 8 [] (hR.cast (by kernel_rfl)) (by kernel_rfl) trivial (fun ρ500 w500 hm500 hR500 => ?_)
  
  refine sim_call 55 [.v (.slice A n cp), LI x] (by kernel_rfl) ?_
  refine (indexI_any A n cp B l x _ (h.belowW hR500.toBelow hB) (Nat.le_trans hB hR500.keeps.size) hn).mono ?_
  rw [← idxI_ge x l 0]
  rintro e w5 ⟨rfl, hb5⟩
  have hR5 := hR500.below hb5
  refine Back.of (LI (idxI x l 0)) hR5 rfl ?_
  refine sim_run 3 [] (hR5.cast (by kernel_rfl)) (by kernel_rfl) trivial (fun ρ600 w600 hm600 hR600 => ?_)
  refine sim_ret (LB (decide (idxI x l 0 ≥ 0))) hR600 (by kernel_rfl) (by kernel_rfl) ?_
  exact ⟨rfl, hR600.toBelow⟩
  
end Go.Proofs.Ytnfgndapalkbcaa
