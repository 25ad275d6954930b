/-
  slices.Index, slices.Contains at string.
-/
import Derived.Test.YtioehmngkoffaaaSimO
import Derived.Test.YtioehmngkoffaaaProg
import Derived.Test.YtioehmngkoffaaaFork
namespace Go.Proofs.Ytioehmngkoffaaa
open Go Go.RowKit
attribute [local irreducible] run goO goN ordGoN eqlOf eqlOper eqlOfO cellL leaveK someK nextK nextT nextOT nextOD loopBody loopRest loopK fillJ tmplOf tmplJ mergeT At AtO drawOk ordOf gateOf callC callO topOp topO idxOf appOf storeOf clearOf sliceOf calleeOf calleeO topQ idxQ newRowOf resL stepOp seek

theorem Reads.belowW {w w' : World} {B N size n : Nat} {A : Option Addr} {xs : List Value} (h : Reads w B size A n xs) (hb : Below N w w') (hB : B ≤ N) : Reads w' B size A n xs := h.below ⟨hb.os, hb.tape, hb.output, hb.size, fun k hk => hb.block k (by omega)⟩
def txtsV (l : List ByteArray) : List Value := l.map .string
theorem txtsV_len (l : List ByteArray) : (txtsV l).length = l.length := by simp [txtsV]
theorem txtsV_get {l : List ByteArray} {k : Nat} {x : ByteArray} (h : l[k]? = some x) : (txtsV l)[k]? = some (.string x) := by unfold txtsV; rw [List.getElem?_map, h]; rfl
/-- where a text stands first, or -1 -/
def idxS (x : ByteArray) : List ByteArray → Nat → Int
  | [], _ => -1
  | a :: l, i => if x.toList == a.toList then (i : Int) else idxS x l (i + 1)
theorem idxS_ge (x : ByteArray) : ∀ (l : List ByteArray) (i : Nat), decide (0 ≤ idxS x l i) = l.any fun a => x.toList == a.toList
  | [], _ => rfl
  | a :: l, i => by
    rw [Bool.eq_iff_iff, decide_eq_true_iff, List.any_cons, Bool.or_eq_true, ← idxS_ge x l (i + 1), decide_eq_true_iff]
    show (0 ≤ if x.toList == a.toList then (i : Int) else idxS x l (i + 1)) ↔ _
    by_cases h : (x.toList == a.toList) = true
    · rw [if_pos h]
      exact ⟨fun _ => .inl h, fun _ => by omega⟩
    · rw [if_neg h]
      exact ⟨.inr, fun h' => h'.resolve_left h⟩
theorem idxS_here {x : ByteArray} {l : List ByteArray} {k : Nat} {a : ByteArray} (h : l[k]? = some a) : idxS x (l.drop k) k = if x.toList == a.toList then (k : Int) else idxS x (l.drop (k + 1)) (k + 1) := by
  have hk := (List.getElem?_eq_some_iff.1 h)
  obtain ⟨hlt, he⟩ := hk
  rw [← List.getElem_cons_drop hlt, he]
  rfl
set_option maxRecDepth 100000 in
theorem indexS_any (A : Option Addr) (n cp B : Nat) (l : List ByteArray) (x : ByteArray) (w : World) (h : Reads w B 1 A n (txtsV l)) (hB : B ≤ w.heap.size) (hn : n ≤ 4611686018427387904) :
    Calls Try.prog 35 #[.slice A n cp, .string x] w fun e w' => e = .returned (.int .i64 (idxS x l 0)) ∧ Below w.heap.size w w' := by
  have hl : l.length = n := by have := h.1; rw [txtsV_len] at this; omega
  refine sim_enter Try.func35 ρ0 [.v (.slice A n cp), LS x] [] (by kernel_rfl) rfl ?_
  have hR := Rel.start [] w ρ0
  refine sim_run 12 [] (hR.cast (by kernel_rfl)) (by kernel_rfl) trivial (fun ρ100 w100 hm100 hR100 => ?_)
  
  refine sim_loop (ι := Nat) (T := []) (w0 := w) 0 [0, 1, 4, 6, 7] (fun k => [(8, LI k)]) (fun _ => []) (fun k _ => k ≤ n ∧ idxS x l 0 = idxS x (l.drop k) k) (fun k => n - k) (by kernel_rfl) (by kernel_rfl) (hR100.cast (by kernel_rfl)) ⟨Nat.zero_le _, rfl⟩ ?_
  clear hR hm100 hR100
  rintro k d w2 hR2 ⟨hk, hs⟩
  by_cases hlt : k < n
  · obtain ⟨ga, oa, rfl, _, _⟩ := h.spot (by omega) (by omega)
    obtain ⟨a, ha⟩ : ∃ a, l[k]? = some a := ⟨_, List.getElem?_eq_getElem (by omega)⟩
    rw [idxS_here ha] at hs
    refine sim_run 5 [] (hR2.cast (by kernel_rfl)) (by kernel_rfl) trivial (fun ρ200 w200 hm200 hR200 => ?_)
    refine sim_know 9 (decide ((↑k : Int) < (↑n : Int))) true (by kernel_rfl) (decide_eq_true (by omega)) ?_
    refine sim_run 14 [] (hR200.cast (by kernel_rfl)) (by kernel_rfl) trivial (fun ρ201 w201 hm201 hR201 => ?_)
    refine sim_cell cp k 0 (.string a) (by kernel_rfl) (by kernel_rfl) hlt h (txtsV_get ha) hB (by simp) hR201 (by kernel_rfl) (fun ρ202 hm202 hf202 hR202 => ?_)
    refine sim_run 3 [] (hR202.cast (by kernel_rfl)) (by kernel_rfl) trivial (fun ρ203 w203 hm203 hR203 => ?_)
    refine sim_fork 16 (x.toList == a.toList) (by kernel_rfl) (fun hq204 => ?_) (fun hq204 => ?_)
    have hq204 := ba_eq hq204
    refine sim_run 6 [] (hR203.cast (by kernel_rfl)) (by kernel_rfl) trivial (fun ρ205 w205 hm205 hR205 => ?_)
    refine sim_ret (LI ((↑k : Int))) hR205 (by kernel_rfl) (by kernel_rfl) ?_
    exact ⟨retv_int (by clear hR205 hm205 hR203 hm203 hR202 hm202 hR201 hm201 hR200 hm200 hR2; grind []), hR205.toBelow⟩
    have hq204 := ba_ne hq204
    refine sim_run 7 [⟨6, 0, LI (IntKind.i64.wrap ((↑k : Int) + 1)), LI ((↑k : Int) + 1)⟩] (hR203.cast (by kernel_rfl)) (by kernel_rfl) ⟨eqi (IntWalk.i64_in _ (by omega)), trivial⟩ (fun ρ206 w206 hm206 hR206 => ?_)
    
    have hne : (x.toList == a.toList) = false := by
      cases hc : (x.toList == a.toList) with
      | false => rfl
      | true => exact absurd (ba_eq hc) (by assumption)
    rw [hne] at hs
    exact sim_again (k + 1) (by kernel_rfl) (by show n - (k + 1) < n - k; omega) (by kernel_rfl) (by kernel_rfl) (by kernel_rfl) (fun m hm => by simp at hm) (by assumption : Rel _ _ _ _ _) (by kernel_rfl) (by kernel_rfl) ⟨hlt, hs⟩
  · refine sim_run 5 [] (hR2.cast (by kernel_rfl)) (by kernel_rfl) trivial (fun ρ300 w300 hm300 hR300 => ?_)
    refine sim_know 9 (decide ((↑k : Int) < (↑n : Int))) false (by kernel_rfl) (decide_eq_false (by omega)) ?_
    refine sim_run 1 [] (hR300.cast (by kernel_rfl)) (by kernel_rfl) trivial (fun ρ301 w301 hm301 hR301 => ?_)
    refine sim_leave (by kernel_rfl) ?_
    refine sim_run 4 [] (hR301.cast (by kernel_rfl)) (by kernel_rfl) trivial (fun ρ302 w302 hm302 hR302 => ?_)
    refine sim_ret (LI (-1)) hR302 (by kernel_rfl) (by kernel_rfl) ?_
    
    have hkn : k = n := by omega
    rw [hkn, ← hl, List.drop_length] at hs
    exact ⟨retv_int (hs.trans rfl).symm, ((by assumption : Rel _ _ _ _ _)).toBelow⟩
set_option maxRecDepth 100000 in
theorem containsS_any (A : Option Addr) (n cp B : Nat) (l : List ByteArray) (x : ByteArray) (w : World) (h : Reads w B 1 A n (txtsV l)) (hB : B ≤ w.heap.size) (hn : n ≤ 4611686018427387904) :
    Calls Try.prog 20 #[.slice A n cp, .string x] w fun e w' => e = .returned (.bool (l.any fun a => x.toList == a.toList)) ∧ Below w.heap.size w w' := by
  refine sim_enter Try.func20 ρ0 [.v (.slice A n cp), LS x] [] (by kernel_rfl) rfl ?_
  have hR := Rel.start [] w ρ0
  refine sim_run 8 [] (hR.cast (by kernel_rfl)) (by kernel_rfl) trivial (fun ρ400 w400 hm400 hR400 => ?_)
  
  refine sim_call 35 [.v (.slice A n cp), LS x] (by kernel_rfl) ?_
  refine (indexS_any A n cp B l x _ (h.belowW hR400.toBelow hB) (Nat.le_trans hB hR400.keeps.size) hn).mono ?_
  rw [← idxS_ge x l 0]
  rintro e w5 ⟨rfl, hb5⟩
  have hR5 := hR400.below hb5
  refine Back.of (LI (idxS x l 0)) hR5 rfl ?_
  refine sim_run 3 [] (hR5.cast (by kernel_rfl)) (by kernel_rfl) trivial (fun ρ500 w500 hm500 hR500 => ?_)
  refine sim_ret (LB (decide (idxS x l 0 ≥ 0))) hR500 (by kernel_rfl) (by kernel_rfl) ?_
  exact ⟨rfl, hR500.toBelow⟩
  
end Go.Proofs.Ytioehmngkoffaaa
