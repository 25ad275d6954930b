/-
  cmp.Compare at int.
  The order of what is done to parts: post.nets' comparison, and the blocks that it lays.
  slices.SortFunc at post.net, off the shelf.
  What is done to parts, sorted by slices.SortFunc with post.nets' comparison.
  post.nets: what postings do to each part that they name.
-/
import Derived.Test.YtgbgedaedcofcaaSimHN
import Derived.Test.YtgbgedaedcofcaaProg
import Derived.IntWalk
import Derived.Test.YtgbgedaedcofcaaBefX4
import Derived.Test.YtgbgedaedcofcaaKeySort3
import Derived.Shelf.SlSortCmp.NoneTotal
import Derived.Test.YtgbgedaedcofcaaPstAD
namespace Go.Proofs.Ytgbgedaedcofcaa
section
open Go Go.RowKit
attribute [local irreducible] run goO goN ordGoN eqlOf eqlOper eqlOfO cellL leaveK someK nextK nextT nextOT nextOD loopBody loopRest loopK fillJ tmplOf tmplJ mergeT At AtO drawOk ordOf gateOf callC callO topOp topO idxOf appOf storeOf clearOf sliceOf calleeOf calleeO topQ idxQ newRowOf resL stepOp seek

def cmpZ (a b : Int) : Int := if a < b then -1 else if b < a then 1 else 0
theorem cmpZ_lt {a b : Int} (h : a < b) : cmpZ a b = -1 := if_pos h
theorem cmpZ_gt {a b : Int} (h : b < a) : cmpZ a b = 1 := by unfold cmpZ; rw [if_neg (by omega), if_pos h]
theorem cmpZ_eq {a b : Int} (h : ¬ a < b) (h' : ¬ b < a) : cmpZ a b = 0 := by unfold cmpZ; rw [if_neg h, if_neg h']

set_option maxRecDepth 100000 in
theorem compare_any (a b : Int) (w : World) : Calls Try.prog 80 #[.int .i64 a, .int .i64 b] w fun e w' => e = .returned (.int .i64 (cmpZ a b)) ∧ Below w.heap.size w w' := by
  refine sim_enter Try.func80 ρ0 [(.v (.int .i64 a)), (.v (.int .i64 b))] [] (by kernel_rfl) rfl ?_
  refine sim_run 1000 [] (Rel.start [] w ρ0) (by kernel_rfl) trivial (fun ρ1 w1 hm1 hR1 => ?_)
  refine sim_into Try.func89 [(.v (.int .i64 a))] (by kernel_rfl) (by kernel_rfl) ?_
  refine sim_run 1000 [⟨1, 2, LB (a != a), LB false⟩] hR1 (by kernel_rfl) ⟨eqb (by simp), trivial⟩ (fun ρ2 w2 hm2 hR2 => ?_)
  refine sim_out 0 (LB false) hR2 (by kernel_rfl) (by kernel_rfl) (fun n hn => absurd hn (by simp)) (by kernel_rfl) ?_
  refine sim_run 1000 [] hR2 (by kernel_rfl) trivial (fun ρ3 w3 hm3 hR3 => ?_)
  refine sim_into Try.func89 [(.v (.int .i64 b))] (by kernel_rfl) (by kernel_rfl) ?_
  refine sim_run 1000 [⟨1, 2, LB (b != b), LB false⟩] hR3 (by kernel_rfl) ⟨eqb (by simp), trivial⟩ (fun ρ4 w4 hm4 hR4 => ?_)
  refine sim_out 0 (LB false) hR4 (by kernel_rfl) (by kernel_rfl) (fun n hn => absurd hn (by simp)) (by kernel_rfl) ?_
  by_cases h : a < b
  · refine sim_run 1000 [⟨9, 2, LB (decide (a < b)), LB true⟩] hR4 (by kernel_rfl) ⟨eqb (by simpa using h), trivial⟩ (fun ρ5 w5 hm5 hR5 => ?_)
    refine sim_ret (LI (-1)) hR5 (by kernel_rfl) (by kernel_rfl) ⟨by rw [cmpZ_lt h]; rfl, hR5.toBelow⟩
  · by_cases h' : b < a
    · refine sim_run 1000 [⟨9, 2, LB (decide (a < b)), LB false⟩, ⟨11, 2, LB (decide (a > b)), LB true⟩] hR4 (by kernel_rfl) ⟨eqb (by simpa using h), eqb (by simpa using h'), trivial⟩ (fun ρ5 w5 hm5 hR5 => ?_)
      refine sim_ret (LI 1) hR5 (by kernel_rfl) (by kernel_rfl) ⟨by rw [cmpZ_gt h']; rfl, hR5.toBelow⟩
    · refine sim_run 1000 [⟨9, 2, LB (decide (a < b)), LB false⟩, ⟨11, 2, LB (decide (a > b)), LB false⟩] hR4 (by kernel_rfl) ⟨eqb (by simpa using h), eqb (by simpa using h'), trivial⟩ (fun ρ5 w5 hm5 hR5 => ?_)
      refine sim_ret (LI 0) hR5 (by kernel_rfl) (by kernel_rfl) ⟨by rw [cmpZ_eq h h']; rfl, hR5.toBelow⟩
end

section
open Go Go.RowKit

theorem isNaNI_x (a : Int) (w : World) : Calls Try.prog 89 #[.int .i64 a] w fun e w' => e = .returned (.bool false) ∧ w = w' := by
  have HE := Lib.hid (show (!(a == a)) = false by simp)
  go_enter Try.func89, Try.ntmps89
  go_wp2_with (first | rw [HE.out])
  go_ret
  exact ⟨ret_bool (by simp), rfl⟩
set_option maxRecDepth 100000 in
theorem compareI_x (a b : Int) (w : World) : Calls Try.prog 80 #[.int .i64 a, .int .i64 b] w fun e w' => e = .returned (.int .i64 (cmpZ a b)) ∧ w = w' := by
  have ha := fun w => isNaNI_x a w
  have hb := fun w => isNaNI_x b w
  go_enter Try.func80, Try.ntmps80
  go_wp2_with (go_at_call 89; first | (refine (ha _).mono ?_; rintro e w' ⟨rfl, rfl⟩) | (refine (hb _).mono ?_; rintro e w' ⟨rfl, rfl⟩))
  · rename_i h1
    go_ret
    exact ⟨ret_int (cmpZ_lt (by simpa using h1)).symm, rfl⟩
  · rename_i h1 _ _ h2
    go_ret
    exact ⟨ret_int (cmpZ_gt (by simpa using h2)).symm, rfl⟩
  · rename_i h1 h2
    go_ret
    exact ⟨ret_int (cmpZ_eq (by simpa using h1) (by simpa using h2)).symm, rfl⟩
/-- what is done to a part -/
structure Nt where
  key : Key
  sub : Int
  amt : Int
  ov : Bool
def Nt.cells (x : Nt) : List Value := [.string x.key.1, .string x.key.2, .int .i64 x.sub, .int .i64 x.amt, .bool x.ov]
abbrev cmpN (x y : Nt) : Int := orZ (cmpK x.key y.key) (cmpZ x.sub y.sub)
open Go.Sort
theorem grow2d (w : World) (a b c : Obj) (q : Nat) (os : Array Obj) : ((grow ((((w.alloc a).alloc b).drew).drewN q) os).alloc c) = grow (w.drewN (q + 1)) (#[a, b] ++ os ++ #[c]) := by
  have e : ((((w.heap.push a).push b) ++ os).push c) = w.heap ++ (#[a, b] ++ os ++ #[c]) := by apply Array.ext'; simp
  show ({ w with heap := ((((w.heap.push a).push b) ++ os).push c), drawn := w.drawn + 1 + q } : World) = { w with heap := w.heap ++ (#[a, b] ++ os ++ #[c]), drawn := w.drawn + (q + 1) }
  rw [e, show w.drawn + 1 + q = w.drawn + (q + 1) by omega]
theorem grow_cell {w : World} {os : Array Obj} {q g i : Nat} {v : Value} (h : w.cell? ⟨g, i, none⟩ = some v) : (grow (w.drewN q) os).cell? ⟨g, i, none⟩ = some v := by
  have hg := World.block_lt_of_cell? _ _ h
  have e : (grow (w.drewN q) os).heap[g]? = w.heap[g]? := by
    show (w.heap ++ os)[g]? = w.heap[g]?
    rw [Array.getElem?_append_left hg]
  unfold World.cell? at h ⊢
  simp only at h ⊢
  rw [e]
  exact h
theorem grow_size (w : World) (q : Nat) (os : Array Obj) : (grow (w.drewN q) os).heap.size = w.heap.size + os.size := by
  show (w.heap ++ os).size = _
  rw [Array.size_append]
theorem alloc_cell {w : World} {o : Obj} {g i : Nat} {v : Value} (h : w.cell? ⟨g, i, none⟩ = some v) : (w.alloc o).cell? ⟨g, i, none⟩ = some v := by
  have hg := World.block_lt_of_cell? _ _ h
  have e : (w.alloc o).heap[g]? = w.heap[g]? := by
    show (w.heap.push o)[g]? = w.heap[g]?
    rw [Array.getElem?_push_lt hg, Array.getElem?_eq_getElem hg]
  unfold World.cell? at h ⊢
  simp only at h ⊢
  rw [e]
  exact h
theorem grow_two (w : World) (a b c : Obj) (q : Nat) (os : Array Obj) {w2 : World} (h : grow ((((w.alloc a).alloc b).drew).drewN q) os = w2) : w2.alloc c = grow (w.drewN (q + 1)) (#[a, b] ++ os ++ #[c]) := by
  rw [← h]
  exact grow2d w a b c q os
set_option maxRecDepth 100000 in
set_option maxHeartbeats 4000000 in
theorem net_x (x y : Nt) (w : World) : Calls Try.prog 79 #[.agg x.cells.toArray, .agg y.cells.toArray] w fun e w' => e = .returned (.int .i64 (cmpN x y)) ∧ ∃ q os', w' = grow (w.drewN q) os' := by
  obtain ⟨⟨a, c⟩, s, m, o⟩ := x
  obtain ⟨⟨b, d⟩, t, n, p⟩ := y
  show Calls Try.prog 79 #[.agg #[.string a, .string c, .int .i64 s, .int .i64 m, .bool o], .agg #[.string b, .string d, .int .i64 t, .int .i64 n, .bool p]] w _
  have h1 := fun w => before_x (a, c) (b, d) w
  have h2 := fun w => compareI_x s t w
  dsimp only at h1
  go_enter Try.func79, Try.ntmps79
  go_wp2
  refine wp_region_ord ((0, false) :: (1, false) :: (2, false) :: (3, false) :: (4, false) :: (5, false) :: (7, false) :: (8, false) :: (9, false) :: (10, false) :: (11, false) :: (12, false) :: (6, true) :: (13, true) :: (14, true) :: (15, true) :: (16, false) :: []) (fun w' => ((w'.cell? ⟨w.heap.size, 0, none⟩ = some (.string a) ∧ w'.cell? ⟨w.heap.size, 1, none⟩ = some (.string c) ∧ w'.cell? ⟨w.heap.size, 2, none⟩ = some (.int .i64 s)) ∧ (w'.cell? ⟨w.heap.size + 1, 0, none⟩ = some (.string b) ∧ w'.cell? ⟨w.heap.size + 1, 1, none⟩ = some (.string d) ∧ w'.cell? ⟨w.heap.size + 1, 2, none⟩ = some (.int .i64 t)))) (by kernel_rfl) (by kernel_rfl) (by kernel_rfl) (by kernel_rfl) (fun _ _ d _ _ h => by cases d <;> exact h) ?_ (fun hHeld => ?_)
  · refine ⟨⟨?_, ?_, ?_⟩, ?_, ?_, ?_⟩ <;> go_simp
  iterate 12 (first | (refine wpOrd_skip (by simp only [List.getElem?_toArray, List.getElem?_cons_succ, List.getElem?_cons_zero]; rfl) (by rfl) ?_; (simp only [Act.put, List.setIfInBounds_toArray, List.set_cons_zero, List.set_cons_succ])) | (refine wpOrd_take (v := ?_) (by simp only [List.getElem?_toArray, List.getElem?_cons_succ, List.getElem?_cons_zero]; rfl) (by rfl) ?_ ?_; rotate_left; (· (intro w hSw; (try dsimp only at hSw); go_simp; try with_reducible rfl)); (simp only [Act.put, List.setIfInBounds_toArray, List.set_cons_zero, List.set_cons_succ])))
  refine wpOrd_alone (by simp only [List.getElem?_toArray, List.getElem?_cons_succ, List.getElem?_cons_zero]; rfl) (fun K hK => ?_)
  go_simp
  (go_at_call 39; refine (h1 _).mono ?_; rintro e w2 ⟨rfl, q, os', hw2⟩)
  refine hK.out _ _ (by subst hw2; obtain ⟨⟨k1, k2, k3⟩, k4, k5, k6⟩ := hHeld; exact ⟨⟨grow_cell k1, grow_cell k2, grow_cell k3⟩, grow_cell k4, grow_cell k5, grow_cell k6⟩) (fun hHeld => ?_)
  clear hK K
  have HW := Lib.hid hw2
  clear hw2
  refine wpOrd_alone (by simp only [List.getElem?_toArray, List.getElem?_cons_succ, List.getElem?_cons_zero]; rfl) (fun K hK => ?_)
  go_simp
  (go_at_call 80; refine (h2 _).mono ?_; rintro e w' ⟨rfl, rfl⟩)
  refine hK.out _ _ hHeld (fun hHeld => ?_)
  clear hK K
  refine wpOrd_alone (by simp only [List.getElem?_toArray, List.getElem?_cons_succ, List.getElem?_cons_zero]; rfl) (fun K hK => ?_)
  go_simp
  refine hK.out _ _ (by obtain ⟨⟨k1, k2, k3⟩, k4, k5, k6⟩ := hHeld; exact ⟨⟨alloc_cell k1, alloc_cell k2, alloc_cell k3⟩, alloc_cell k4, alloc_cell k5, alloc_cell k6⟩) (fun hHeld => ?_)
  clear hK K
  refine wpOrd_alone (by simp only [List.getElem?_toArray, List.getElem?_cons_succ, List.getElem?_cons_zero]; rfl) (fun K hK => ?_)
  go_simp
  (go_at_call 52; refine (or_x (cmpK (a, c) (b, d)) (cmpZ s t) _ _ (by go_simp) (by go_simp)).mono ?_; rintro e w' ⟨rfl, rfl⟩)
  refine hK.out _ _ hHeld (fun hHeld => ?_)
  clear hK K
  iterate 1 (first | (refine wpOrd_skip (by simp only [List.getElem?_toArray, List.getElem?_cons_succ, List.getElem?_cons_zero]; rfl) (by rfl) ?_; (simp only [Act.put, List.setIfInBounds_toArray, List.set_cons_zero, List.set_cons_succ])) | (refine wpOrd_take (v := ?_) (by simp only [List.getElem?_toArray, List.getElem?_cons_succ, List.getElem?_cons_zero]; rfl) (by rfl) ?_ ?_; rotate_left; (· (intro w hSw; (try dsimp only at hSw); go_simp; try with_reducible rfl)); (simp only [Act.put, List.setIfInBounds_toArray, List.set_cons_zero, List.set_cons_succ])))
  refine wpOrd_done ?_
  go_wp2_with fail
  go_ret
  exact ⟨rfl, q + 1, _, grow_two _ _ _ _ _ _ HW.out.symm⟩
end

section
open Go Go.Shelf Go.RowKit
attribute [local irreducible] run goO goN ordGoN eqlOf eqlOper eqlOfO cellL leaveK someK nextK nextT nextOT nextOD loopBody loopRest loopK fillJ tmplOf tmplJ mergeT At AtO drawOk ordOf gateOf callC callO topOp topO idxOf appOf storeOf clearOf sliceOf calleeOf calleeO topQ idxQ newRowOf resL stepOp seek

def renFNet : Nat → Nat
  | 6 => 78
  | 14 => 88
  | 15 => 51
  | 20 => 91
  | 21 => 92
  | 22 => 93
  | 23 => 94
  | 24 => 95
  | 25 => 96
  | 26 => 97
  | 27 => 98
  | 28 => 73
  | 29 => 74
  | 46 => 99
  | 47 => 83
  | 48 => 84
  | 49 => 100
  | 50 => 101
  | 57 => 102
  | k => k
def renTNet : Nat → Nat
  | 0 => 0
  | 3 => 3
  | 4 => 4
  | 5 => 5
  | 9 => 9
  | 22 => 87
  | 24 => 94
  | 25 => 133
  | 39 => 104
  | 45 => 118
  | 46 => 119
  | 50 => 123
  | 53 => 126
  | 55 => 106
  | 66 => 135
  | 70 => 139
  | 76 => 145
  | 77 => 146
  | k => k
def renSNet : Ren := ⟨renFNet, renTNet, fun k => k⟩
set_option maxRecDepth 100000 in
theorem laysSNet : SlLaysF0.n6 Try.prog renSNet where
  mixed := by kernel_rfl
  f6 := Exists.intro "slices.SortFunc[[]compline/post.net,compline/post.net]" ⟨by kernel_rfl, by kernel_rfl⟩
  f14 := Exists.intro "slices.pdqsortCmpFunc[compline/post.net]" ⟨by kernel_rfl, by kernel_rfl⟩
  f15 := by kernel_rfl
  f20 := Exists.intro "slices.insertionSortCmpFunc[compline/post.net]" ⟨by kernel_rfl, by kernel_rfl⟩
  f21 := Exists.intro "slices.heapSortCmpFunc[compline/post.net]" ⟨by kernel_rfl, by kernel_rfl⟩
  f22 := Exists.intro "slices.breakPatternsCmpFunc[compline/post.net]" ⟨by kernel_rfl, by kernel_rfl⟩
  f23 := Exists.intro "slices.choosePivotCmpFunc[compline/post.net]" ⟨by kernel_rfl, by kernel_rfl⟩
  f24 := Exists.intro "slices.reverseRangeCmpFunc[compline/post.net]" ⟨by kernel_rfl, by kernel_rfl⟩
  f25 := Exists.intro "slices.partialInsertionSortCmpFunc[compline/post.net]" ⟨by kernel_rfl, by kernel_rfl⟩
  f26 := Exists.intro "slices.partitionEqualCmpFunc[compline/post.net]" ⟨by kernel_rfl, by kernel_rfl⟩
  f27 := Exists.intro "slices.partitionCmpFunc[compline/post.net]" ⟨by kernel_rfl, by kernel_rfl⟩
  f28 := by kernel_rfl
  f29 := by kernel_rfl
  f46 := Exists.intro "slices.siftDownCmpFunc[compline/post.net]" ⟨by kernel_rfl, by kernel_rfl⟩
  f47 := by kernel_rfl
  f48 := by kernel_rfl
  f49 := Exists.intro "slices.medianAdjacentCmpFunc[compline/post.net]" ⟨by kernel_rfl, by kernel_rfl⟩
  f50 := Exists.intro "slices.medianCmpFunc[compline/post.net]" ⟨by kernel_rfl, by kernel_rfl⟩
  f57 := Exists.intro "slices.order2CmpFunc[compline/post.net]" ⟨by kernel_rfl, by kernel_rfl⟩
  t0 := by kernel_rfl
  a0 := fun _ => by kernel_rfl
  z0 := fun _ => by kernel_rfl
  v0 := fun _ => by kernel_rfl
  t3 := by kernel_rfl
  a3 := fun _ => by kernel_rfl
  z3 := fun _ => by kernel_rfl
  v3 := fun _ => by kernel_rfl
  t4 := by kernel_rfl
  a4 := fun _ => by kernel_rfl
  z4 := fun _ => by kernel_rfl
  v4 := fun _ => by kernel_rfl
  t5 := by kernel_rfl
  a5 := fun _ => by kernel_rfl
  z5 := fun _ => by kernel_rfl
  v5 := fun _ => by kernel_rfl
  t9 := by kernel_rfl
  a9 := fun _ => by kernel_rfl
  z9 := fun _ => by kernel_rfl
  v9 := fun _ => by kernel_rfl
  t22 := by kernel_rfl
  a22 := fun _ => by kernel_rfl
  z22 := fun _ => by kernel_rfl
  v22 := fun _ => by kernel_rfl
  t25 := by kernel_rfl
  a25 := fun _ => by kernel_rfl
  z25 := fun _ => by kernel_rfl
  v25 := fun _ => by kernel_rfl
  t39 := by kernel_rfl
  a39 := fun _ => by kernel_rfl
  z39 := fun _ => by kernel_rfl
  v39 := fun _ => by kernel_rfl
  t45 := by kernel_rfl
  a45 := fun _ => by kernel_rfl
  z45 := fun _ => by kernel_rfl
  v45 := fun _ => by kernel_rfl
  t46 := by kernel_rfl
  a46 := fun _ => by kernel_rfl
  z46 := fun _ => by kernel_rfl
  v46 := fun _ => by kernel_rfl
  t50 := by kernel_rfl
  a50 := fun _ => by kernel_rfl
  z50 := fun _ => by kernel_rfl
  v50 := fun _ => by kernel_rfl
  t53 := by kernel_rfl
  a53 := fun _ => by kernel_rfl
  z53 := fun _ => by kernel_rfl
  v53 := fun _ => by kernel_rfl
  t55 := by kernel_rfl
  a55 := fun _ => by kernel_rfl
  z55 := fun _ => by kernel_rfl
  v55 := fun _ => by kernel_rfl
  t66 := by kernel_rfl
  a66 := fun _ => by kernel_rfl
  z66 := fun _ => by kernel_rfl
  v66 := fun _ => by kernel_rfl
  t70 := by kernel_rfl
  a70 := fun _ => by kernel_rfl
  z70 := fun _ => by kernel_rfl
  v70 := fun _ => by kernel_rfl
  t76 := by kernel_rfl
  a76 := fun _ => by kernel_rfl
  z76 := fun _ => by kernel_rfl
  v76 := fun _ => by kernel_rfl
  t77 := by kernel_rfl
  a77 := fun _ => by kernel_rfl
  z77 := fun _ => by kernel_rfl
  v77 := fun _ => by kernel_rfl
end

section
open Go Go.RowKit Go.Sort

/-- a part of a position -/
abbrev Part := Key × Int
def encN (F : Part → Int × Bool) (k : Part) : List Value := [.string k.1.1, .string k.1.2, .int .i64 k.2, .int .i64 (F k).1, .bool (F k).2]
abbrev cmpP (x y : Part) : Int := orZ (cmpK x.1 y.1) (cmpZ x.2 y.2)
def ltP (x y : Part) : Bool := ltK x.1 y.1 || (decide (x.1 = y.1) && decide (x.2 < y.2))
theorem cmpK_lt (a b : Key) : (cmpK a b < 0 ↔ ltK a b = true) ∧ (cmpK a b = 0 ↔ a = b) := by
  have h1 := ltOf_cmpK a b
  unfold ltOf at h1
  refine ⟨by rw [← h1]; simp, ?_⟩
  obtain ⟨a1, a2⟩ := a
  obtain ⟨b1, b2⟩ := b
  unfold cmpK orZ
  dsimp only
  split
  · rename_i h
    rw [(cmpS_lt a2 b2).2, (cmpS_lt a1 b1).2.1 h]
    simp
  · rename_i h
    have h2 : ¬ a1 = b1 := fun e => h ((cmpS_lt a1 b1).2.2 e)
    simp [h, h2]
theorem cmpZ_lt0 (a b : Int) : cmpZ a b < 0 ↔ a < b := by
  unfold cmpZ
  split
  · rename_i h
    simp [h]
  · split <;> rename_i h h2 <;> simp [h]
theorem ltOf_cmpP (x y : Part) : ltOf cmpP x y = ltP x y := by
  obtain ⟨a, s⟩ := x
  obtain ⟨b, t⟩ := y
  unfold ltOf cmpP ltP orZ
  dsimp only
  by_cases e : a = b
  · subst e
    have h0 := (cmpK_lt a a).2.2 rfl
    rw [h0, if_pos rfl, ltK_irrefl]
    simp only [decide_true, Bool.true_and, Bool.false_or]
    rw [Bool.eq_iff_iff, decide_eq_true_iff, decide_eq_true_iff]
    exact cmpZ_lt0 s t
  · have h0 : cmpK a b ≠ 0 := fun h => e ((cmpK_lt a b).2.1 h)
    rw [if_neg h0, decide_eq_false e, Bool.false_and, Bool.or_false, Bool.eq_iff_iff, decide_eq_true_iff]
    exact (cmpK_lt a b).1
theorem ltP_irrefl (x : Part) : ltP x x = false := by simp [ltP, ltK_irrefl]
theorem ltP_trans {x y z : Part} (h : ltP x y = true) (h' : ltP y z = true) : ltP x z = true := by
  obtain ⟨a, b⟩ := x
  obtain ⟨c, d⟩ := y
  obtain ⟨e, f⟩ := z
  simp only [ltP, Bool.or_eq_true, Bool.and_eq_true, decide_eq_true_eq] at *
  rcases h with h | ⟨rfl, h⟩ <;> rcases h' with h' | ⟨rfl, h'⟩
  · exact .inl (ltK_trans h h')
  · exact .inl h
  · exact .inl h'
  · exact .inr ⟨rfl, by omega⟩
theorem ltP_total {x y : Part} (h : ltP x y = false) (h' : ltP y x = false) : x = y := by
  obtain ⟨a, b⟩ := x
  obtain ⟨c, d⟩ := y
  simp only [ltP, Bool.or_eq_false_iff, Bool.and_eq_false_iff, decide_eq_false_iff_not] at *
  obtain ⟨h1, h2⟩ := h
  obtain ⟨h3, h4⟩ := h'
  have e := ltK_total h1 h3
  subst e
  have h5 := h2.resolve_left (fun h => h rfl)
  have h6 := h4.resolve_left (fun h => h rfl)
  rw [show b = d by omega]
theorem swoP : SWO (ltOf cmpP) where
  irrefl x := by rw [ltOf_cmpP]; exact ltP_irrefl x
  trans x y z h1 h2 := by rw [ltOf_cmpP] at *; exact ltP_trans h1 h2
  ntrans x y z h1 h2 := by
    rw [ltOf_cmpP] at *
    cases h : ltP x z with
    | false => rfl
    | true =>
      cases h3 : ltP y x with
      | true => rw [ltP_trans h3 h] at h2; cases h2
      | false =>
        have e := ltP_total h1 h3
        subst e
        rw [h] at h2
        cases h2
def leP (x y : Part) : Bool := !ltP y x
def sortPs (ks : List Part) : List Part := ks.mergeSort leP
theorem sortPs_len (ks : List Part) : (sortPs ks).length = ks.length := List.length_mergeSort ..
theorem leP_trans (x y z : Part) (h1 : leP x y = true) (h2 : leP y z = true) : leP x z = true := by
  unfold leP at *
  simp only [Bool.not_eq_true'] at *
  cases hzx : ltP z x with
  | false => rfl
  | true =>
    cases hxy : ltP x y with
    | true => rw [ltP_trans hzx hxy] at h2; cases h2
    | false =>
      have e := ltP_total hxy h1
      subst e
      rw [hzx] at h2
      cases h2
theorem leP_total (x y : Part) : (leP x y || leP y x) = true := by
  unfold leP
  cases h1 : ltP y x with
  | false => simp
  | true =>
    cases h2 : ltP x y with
    | false => simp
    | true => have := ltP_trans h1 h2; rw [ltP_irrefl] at this; cases this
theorem sortPs_perm {xs ys : List Part} (h : xs.Perm ys) : sortPs xs = sortPs ys := by
  refine List.Perm.eq_of_pairwise (le := fun a b => leP a b = true) (fun a b _ _ h1 h2 => ?_) (List.pairwise_mergeSort leP_trans leP_total _) (List.pairwise_mergeSort leP_trans leP_total _) (((List.mergeSort_perm xs leP).trans h).trans (List.mergeSort_perm ys leP).symm)
  unfold leP at h1 h2
  simp only [Bool.not_eq_true'] at h1 h2
  exact ltP_total h2 h1
theorem sortNets_any (F : Part → Int × Bool) (base n cp : Nat) (A : Option Addr) (ks : List Part) (w : World) (h : w.ownsRow base 94 5 (.slice A n cp) n (ks.flatMap (encN F))) (hl : ks.length = n) (hn : n < 4611686018427387904) :
    Calls Try.prog 78 #[.slice A n cp, .func (.func 79) #[] #[]] w fun e w' => e = .returned (.tuple #[]) ∧ w'.ownsRow base 94 5 (.slice A n cp) n ((sortPs ks).flatMap (encN F)) ∧ Kept (inA A) w w' := by
  have hs : (fun x y => !(ltOf cmpP) y x) = leP := by funext x y; rw [ltOf_cmpP]; rfl
  cases A with
  | none =>
    have h0 : n = 0 := by
      rcases h.2 with ⟨_, h0⟩ | ⟨g, cap, cur, e, _⟩
      · exact h0
      · cases e
    subst h0
    have hk : ks = [] := List.eq_nil_of_length_eq_zero hl
    subst hk
    refine (AnyF.slices_SortFunc_none laysSNet none cp (.func (.func 79) #[] #[]) w).mono ?_
    rintro e w' ⟨he, rfl⟩
    rw [show sortPs [] = [] from List.mergeSort_nil ..]
    exact ⟨he, h, Kept.refl _ _⟩
  | some a =>
    obtain ⟨g, rfl⟩ : ∃ g, a = ⟨g, 0, none⟩ := by
      rcases h.2 with ⟨e, _⟩ | ⟨g, cap, cur, e, _⟩
      · cases e
      · injection e with e; injection e with e; exact ⟨g, e⟩
    have hg : g < w.heap.size := own_lt h rfl
    subst hl
    have hc := AnyQ.slices_SortFunc_total (P := Try.prog) laysSNet 5 (fun _ => by kernel_rfl) (fun _ => by kernel_rfl) (encN F) (fun _ => rfl) (fun x v hv => by simp [encN] at hv; rcases hv with rfl | rfl | rfl | rfl | rfl <;> rfl) cmpP swoP 79 #[] g 0 cp ks.toArray w
      (enters_of Try.func79 (by kernel_rfl) rfl) (fun m os dk _ x y => net_x ⟨x.1, x.2, (F x).1, (F x).2⟩ ⟨y.1, y.2, (F y).1, (F y).2⟩ _) (holdsK_own (enc := encN F) (k := 5) (fun _ => rfl) rfl h) hg (by simpa using hn) (fun x y h1 h2 => by rw [ltOf_cmpP] at *; exact ltP_total h1 h2)
    rw [hs, show renSNet.f 6 = 78 from rfl] at hc
    refine Calls.mono (by simpa using hc) ?_
    rintro e w' ⟨he, m, os, rfl⟩
    obtain ⟨h1, h2⟩ := own_sortWorld (enc := encN F) (fun _ => rfl) rfl (sortPs_len ks) h m os
    exact ⟨he, h1, h2.mono (fun x hx => .inl ⟨_, rfl, hx.symm⟩)⟩
end

section
open Go Go.RowKit

instance instDecPart : DecidableEq Part := inferInstanceAs (DecidableEq ((ByteArray × ByteArray) × Int))
def encP (k : Part) : Value := .agg #[.string k.1.1, .string k.1.2, .int .i64 k.2]
theorem part_eqIn (a b : Part) : eqIn Try.prog Op.maxDepth 92 (encP a) (encP b) = some ((a.1.1 == b.1.1 && (a.1.2 == b.1.2 && true)) && (a.2 == b.2 && true)) := by kernel_rfl
theorem kt_part : KT Try.prog 92 encP := by
  refine ⟨fun a b w => ?_, fun d hd a b x h => ?_, ⟨_, Try.underlying92⟩, fun b a w => by kernel_rfl, fun a => ?_⟩
  · have h := eqIn_run _ _ _ _ _ w (part_eqIn a b)
    have e : ((a.1.1 == b.1.1 && (a.1.2 == b.1.2 && true)) && (a.2 == b.2 && true)) = decide (a = b) := by
      rw [ba_dec, ba_dec, Bool.and_true, Bool.and_true]
      obtain ⟨⟨a1, a2⟩, a3⟩ := a
      obtain ⟨⟨b1, b2⟩, b3⟩ := b
      simp only [Prod.mk.injEq, Bool.decide_and]
      rfl
    rw [e] at h
    exact h
  · simp [Instr.sameNow, encP] at h
  · unfold encP
    simp [Instr.sameBits, ba_dec]
theorem mn_ty : Try.prog.underlying 130 = some (.map 92 82) := Try.underlying130
theorem net_ty : RowTy Try.prog 87 94 5 56 := .of Try.underlying87 (by kernel_rfl) rfl
def OpP.part (o : OpP) : Part := ((o.acc, o.asset), o.sub)
def ptL (k : Part) (ps : List OpP) : List Int := (ps.filter fun p => decide (p.part = k)).map (·.amt)
def hasPt (k : Part) (l : List Part) : Bool := l.any fun q => decide (q = k)
theorem hasPt_iff {k : Part} {l : List Part} : hasPt k l = true ↔ k ∈ l := by
  unfold hasPt
  rw [List.any_eq_true]
  exact ⟨fun ⟨q, hq, he⟩ => of_decide_eq_true he ▸ hq, fun h => ⟨k, h, decide_eq_true rfl⟩⟩
def keysP : List OpP → List Part → List Part
  | [], out => out
  | p :: ps, out => keysP ps (if hasPt p.part out = true then out else out ++ [p.part])
theorem keysP_snoc (p : OpP) : ∀ (ps : List OpP) (out : List Part), keysP (ps ++ [p]) out = if hasPt p.part (keysP ps out) = true then keysP ps out else keysP ps out ++ [p.part]
  | [], _ => rfl
  | _ :: ps, _ => keysP_snoc p ps _
def netF (ps : List OpP) (k : Part) : Int × Bool := (clampV (sumI (ptL k ps)), clampO (sumI (ptL k ps)))
/-- what postings do, by part -/
def netsM (ps : List OpP) : List Part := sortPs (keysP ps [])
theorem ptL_snoc (k : Part) (ps : List OpP) (p : OpP) : ptL k (ps ++ [p]) = if p.part = k then ptL k ps ++ [p.amt] else ptL k ps := by
  unfold ptL
  rw [List.filter_append]
  split <;> rename_i h <;> simp [h]
theorem ptL_eq {ps : List OpP} {i : Nat} {u : OpP} (h : ps[i]? = some u) : ptL u.part (ps.take (i + 1)) = ptL u.part (ps.take i) ++ [u.amt] := by
  rw [List.take_add_one, h]
  show ptL _ (_ ++ [u]) = _
  rw [ptL_snoc, if_pos rfl]
theorem ptL_ne {ps : List OpP} {i : Nat} {u : OpP} (h : ps[i]? = some u) {q : Part} (hq : q ≠ u.part) : ptL q (ps.take (i + 1)) = ptL q (ps.take i) := by
  rw [List.take_add_one, h]
  show ptL _ (_ ++ [u]) = _
  rw [ptL_snoc, if_neg (fun e => hq e.symm)]
theorem ptL_len (k : Part) (ps : List OpP) (i : Nat) : (ptL k (ps.take i)).length ≤ i := by
  unfold ptL
  rw [List.length_map]
  exact Nat.le_trans (List.length_filter_le _ _) (by rw [List.length_take]; omega)
theorem ptL_64 {ps : List OpP} (h : ∀ o ∈ ps, o.ok) (a : Part) : ∀ x ∈ ptL a ps, IsI64 x := by
  intro x hx
  unfold ptL at hx
  obtain ⟨o, ho, rfl⟩ := List.mem_map.1 hx
  exact (h o (List.mem_filter.1 ho).1).amt
theorem Rws.ent {K : Type} [DecidableEq K] {ρ : Nm} {rs : List Reg} {w : World} {B : Nat} {l : List (Ent K Value)} {f : K → List Int} (h : Rws ρ rs w B l f) {clock : Nat} (hf : Fine l clock) {k : K} (hk : look k l = none → f k = []) (n : Nat) : Rws ρ rs w B (entL k nilRow n l) f := by
  cases hh : hasK k l with
  | true => unfold entL; rw [if_pos hh]; exact h
  | false =>
    rw [entL_ins hh]
    have hl : look k l = none := by unfold hasK at hh; simpa using hh
    refine h.put hf (fun _ _ => rfl) ⟨rfl, rfl, rfl, Nat.le_refl _, fun _ _ _ => rfl⟩ ?_ (.inl (by rw [hl]; rfl)) n
    rw [hk hl]
    exact ⟨World.ownsRow_nil _ _ _ _, fun _ h => by cases h⟩
theorem nets_keys {l : List (Ent Part Value)} {ps : List OpP} {i : Nat} {u : OpP} (hu : ps[i]? = some u) (h : l.map (·.key) = keysP (ps.take i) []) (zv v' : Value) (n m : Nat) : (ins u.part v' m (entL u.part zv n l)).map (·.key) = keysP (ps.take (i + 1)) [] := by
  rw [ins_keys, entL_has, if_pos rfl, List.take_add_one, hu]
  show _ = keysP (_ ++ [u]) []
  rw [keysP_snoc, ← h]
  cases hh : hasK u.part l with
  | true =>
    rw [if_pos (hasPt_iff.2 (hasK_iff.1 hh))]
    unfold entL
    rw [if_pos hh]
  | false =>
    have h1 : ¬ u.part ∈ l.map (·.key) := fun h2 => by rw [hasK_iff.2 h2] at hh; cases hh
    rw [if_neg (fun h2 => h1 (hasPt_iff.1 h2)), entL_ins hh, ins_keys, hh]
    rfl
theorem nets_none {ps : List OpP} {i : Nat} {u : OpP} {zv v' : Value} {n m : Nat} {l : List (Ent Part Value)} (hu : ps[i]? = some u) (h : ∀ a, look a l = none → ptL a (ps.take i) = []) (a : Part) (ha : look a (ins u.part v' m (entL u.part zv n l)) = none) : ptL a (ps.take (i + 1)) = [] := by
  rw [look_ins] at ha
  split at ha
  · cases ha
  · rename_i hne
    rw [entL_look, if_neg hne] at ha
    rw [ptL_ne hu hne]
    exact h a ha
theorem Rws.grownN {K : Type} {ρ : Nm} {rs : List Reg} {w w' : World} {B : Nat} {l : List (Ent K Value)} {f : K → List Int} (h : Rws ρ rs w B l f) {b : Nat} {e : TypeId} {s : Nat} {v : Value} {n : Nat} {xs : List Value} (ho : w.ownsRow b e s v n xs) (hne : e ≠ 3) (hg : w.grownBy w' v.ownBlock) : Rws ρ rs w' B l f :=
  h.map fun _ _ h1 => h1.grown hg fun g hg1 hg2 => own_ne ho h1.own hne g hg2 hg1
theorem keysP_len : ∀ (ps : List OpP) (out : List Part), (keysP ps out).length ≤ out.length + ps.length
  | [], out => by simp [keysP]
  | p :: ps, out => by
    have ih := keysP_len ps (if hasPt p.part out = true then out else out ++ [p.part])
    simp only [keysP]
    split at ih <;> simp only [List.length_append, List.length_cons, List.length_nil] at ih ⊢ <;> split <;> simp_all <;> omega
theorem nets_end {ps : List OpP} {l dn : List (Ent Part Value)} (hk : l.map (·.key) = keysP ps []) (hp : dn.Perm l) : sortPs (dn.map (·.key)) = netsM ps := by
  unfold netsM
  rw [← hk]
  exact sortPs_perm (hp.map _)
attribute [local irreducible] run goO goN ordGoN eqlOf eqlOper eqlOfO cellL leaveK someK nextK nextT nextOT nextOD loopBody loopRest loopK fillJ tmplOf tmplJ mergeT At AtO drawOk ordOf gateOf callC callO topOp topO idxOf appOf storeOf clearOf sliceOf calleeOf calleeO topQ idxQ newRowOf resL stepOp seek

set_option maxRecDepth 100000 in
set_option maxHeartbeats 4000000 in
theorem nets_any (A : Option Addr) (n cp B : Nat) (ps : List OpP) (w : World) (h : Posts w B A n ps) (hB : B ≤ w.heap.size) (hn : n ≤ 100000) : Calls Try.prog 61 #[.slice A n cp] w fun e w' => (∃ A' cap, e = .returned (.slice A' (netsM ps).length cap) ∧ w'.ownsRow w.heap.size 94 5 (.slice A' (netsM ps).length cap) (netsM ps).length ((netsM ps).flatMap (encN (netF ps)))) ∧ Below w.heap.size w w' := by
  refine sim_enter Try.func61 ρ0 [.v (.slice A n cp)] [] (by kernel_rfl) rfl ?_
  have hR := Rel.start [] w ρ0
  obtain ⟨hrd, hlen, hok⟩ := h
  refine sim_run 6 [] (hR.cast (by kernel_rfl)) (by kernel_rfl) trivial (fun ρ100 w100 hm100 hR100 => ?_)
  refine sim_make encP id (t := 130) (by kernel_rfl) hR100 (fun w101 gm eg hb101 hM hR101 => ?_)
  refine sim_run 10 [] (hR101.cast (by kernel_rfl)) (by kernel_rfl) trivial (fun ρ102 w102 hm102 hR102 => ?_)
  have hM := hM.moved (hm102.castL (by kernel_rfl))
  
  have hgm : w.heap.size ≤ gm := by rw [eg]; exact hR100.keeps.size
  refine sim_loop (ι := Nat × List (Ent Part Value) × Nat) (T := []) (w0 := w) (0, [], 0) [0, 2, 3, 13, 14] (fun x => [(15, LI x.1)]) (fun _ => []) (fun x w1 => x.1 ≤ n ∧ MpO encP id ρ102 [] w1 (some gm) x.2.1 x.2.2 ∧ Rws ρ102 [] w1 w.heap.size x.2.1 (fun a => ptL a (ps.take x.1)) ∧ (∀ a, look a x.2.1 = none → ptL a (ps.take x.1) = []) ∧ x.2.1.map (·.key) = keysP (ps.take x.1) []) (fun x => n - x.1) (by kernel_rfl) (by kernel_rfl) (hR102.cast (by kernel_rfl)) ⟨Nat.zero_le _, hM.castR (by kernel_rfl), Rws.nil, fun _ _ => rfl, rfl⟩ ?_
  iterate 6 (try clear hM)
  clear hR102 hm102
  rintro ⟨i, l, clock⟩ d w2 hR2 ⟨hi, hM, hrw, hnone, hkeys⟩
  dsimp only at hi hM hrw hnone hkeys
  have hag := hR2.ag_ 0 (by kernel_rfl)
  by_cases hlt : i < n
  · obtain ⟨u, hu⟩ : ∃ u, ps[i]? = some u := ⟨_, List.getElem?_eq_getElem (by omega)⟩
    have hx : (ps.map OpP.cells)[i]? = some u.cells := by rw [List.getElem?_map, hu]; rfl
    refine sim_see u.cells i 0 (by kernel_rfl) hx hrd (op_len ps) (by omega) hlt hB (by simp) hR2 (by kernel_rfl) (fun ga oa ρE eA hgT hgl hmE eE hRE => ?_)
    subst eA
    have hM := hM.moved hmE
    have hrw := (hrw.moved hmE).ent hM.fine (hnone u.part) clock
    have hag1 := hag.moved hmE
    have hag := hRE.ag_ 1 (by kernel_rfl)
    have hlk : look u.part (entL u.part nilRow clock l) = some ((look u.part l).getD nilRow) := by rw [entL_look, if_pos rfl]
    have hrow := hrw.at_ (k := u.part) (fun e => by rw [hlk] at e; cases e)
    rw [hlk, Option.getD_some] at hrow
    have hlen1 := ptL_len u.part ps i
    generalize hv : (look u.part l).getD nilRow = v at hrow hlk
    refine sim_run 5 [] (hRE.cast (by kernel_rfl)) (by kernel_rfl) trivial (fun ρ200 w200 hm200 hR200 => ?_)
    have hM := hM.moved (hm200.castL (by kernel_rfl))
    have hrw := hrw.moved (hm200.castL (by kernel_rfl))
    have hag1 := hag1.moved (hm200.castL (by kernel_rfl))
    have hag := hag.moved (hm200.castL (by kernel_rfl))
    have hrow := hrow.moved (hm200.castL (by kernel_rfl))
    refine sim_know 16 (decide ((↑(i, l, clock).fst : Int) < (↑n : Int))) true (by kernel_rfl) (decide_eq_true (by omega)) ?_
    refine sim_run 6 [] (hR200.cast (by kernel_rfl)) (by kernel_rfl) trivial (fun ρ201 w201 hm201 hR201 => ?_)
    have hM := hM.moved (hm201.castL (by kernel_rfl))
    have hrw := hrw.moved (hm201.castL (by kernel_rfl))
    have hag1 := hag1.moved (hm201.castL (by kernel_rfl))
    have hag := hag.moved (hm201.castL (by kernel_rfl))
    have hrow := hrow.moved (hm201.castL (by kernel_rfl))
    refine sim_place (.v (.slice (some ⟨ga, oa, none⟩) n cp)) n 4 i 0 0 (by kernel_rfl) (by omega) (by omega) rfl (by simp only [Nm.at_, hag.at_ 0 (by omega), eE, Nat.add_zero, Int.toNat_natCast]) ?_
    refine sim_run 20 [] (hR201.cast (by kernel_rfl)) (by kernel_rfl) trivial (fun ρ203 w203 hm203 hR203 => ?_)
    have hM := hM.moved (hm203.castL (by kernel_rfl))
    have hrw := hrw.moved (hm203.castL (by kernel_rfl))
    have hag1 := hag1.moved (hm203.castL (by kernel_rfl))
    have hag := hag.moved (hm203.castL (by kernel_rfl))
    have hrow := hrow.moved (hm203.castL (by kernel_rfl))
    refine sim_ment (enc := encP) (encV := id) (mx := .v (.map (some gm))) (kx := .agg [LS u.acc, LS u.asset, LI u.sub]) u.part (by kernel_rfl) mn_ty kt_part zero_row hM rfl rfl (.inr hgm) hR203 (.v v) (by show v = _; exact hv.symm) (fun w204 ht204 hM2 hR204 => ?_)
    have hM := hM2
    clear hM2
    have hrw := hrw.turnM ht204
    have hrow := hrow.turnM ht204
    refine sim_run 1 [] (hR204.cast (by kernel_rfl)) (by kernel_rfl) trivial (fun ρ205 w205 hm205 hR205 => ?_)
    have hag1 := hag1.moved (hm205.castL (by kernel_rfl))
    have hag := hag.moved (hm205.castL (by kernel_rfl))
    have hM := hM.moved (hm205.castL (by kernel_rfl))
    have hrw := hrw.moved (hm205.castL (by kernel_rfl))
    have hrow := hrow.moved (hm205.castL (by kernel_rfl))
    
    have hsz := (hR205).keeps.size
    refine sim_appendP 82 v (.slc 3 0 1 1) (by kernel_rfl) (hR205.cast (by kernel_rfl)) int_ty (hrow.castR (by kernel_rfl)) 3 1 1 rfl [LI u.amt] (by kernel_rfl) rfl (by kernel_rfl) (by unfold maxLen; omega) (by omega) (hR205).keeps.size (fun g' hg' => .inr (own_ge hrow.own hg')) [0] (by kernel_rfl) (fun k0 hk0 g' hg' => by
        simp only [List.mem_singleton] at hk0
        subst hk0
        rw [hag.at_ 0 (by omega), eE]
        have := own_ge hrow.own hg'
        show ga ≠ g'
        omega) (fun v' w4 hvo hgr hat hR4 => ?_)
    have hfe := hM.fine
    have hM := hM.grownO hrow.own hgr
    have hput := hrw.put (f' := fun a => ptL a (ps.take (i + 1))) hfe (k := u.part) (v' := v') (fun q hq => ptL_ne hu hq) (by rw [hlk]; exact hgr) (by rw [ptL_eq hu, List.length_append]; unfold ints at hvo ⊢; rw [List.map_append]; exact hvo) (by rw [hlk]; exact hat.imp id (fun e => ⟨_, Nat.le_refl _, e⟩)) clock
    clear hrow hrw hvo
    refine sim_run 1 [] (hR4.cast (by kernel_rfl)) (by kernel_rfl) trivial (fun ρ400 w400 hm400 hR400 => ?_)
    have hag1 := hag1.moved (hm400.castL (by kernel_rfl))
    have hag := hag.moved (hm400.castL (by kernel_rfl))
    have hM := hM.moved (hm400.castL (by kernel_rfl))
    have hput := hput.moved (hm400.castL (by kernel_rfl))
    refine sim_mest (t := 130) (enc := encP) (encV := id) (mx := .v (.map (some gm))) (sx := LI (bornK u.part (entL u.part nilRow clock l) : Nat)) (vx := .v v') u.part v' clock (by kernel_rfl) hM (entL_has _ _ _ _) rfl rfl rfl (.inr hgm) hR400 (fun w401 ht401 hM2 hR401 => ?_)
    have hM := hM2
    clear hM2
    have hput := hput.turnM ht401
    refine sim_run 6 [⟨7, 0, LI (IntKind.i64.wrap ((↑(i, l, clock).fst : Int) + 1)), LI ((↑(i, l, clock).fst : Int) + 1)⟩] (hR401.cast (by kernel_rfl)) (by kernel_rfl) ⟨eqi (IntWalk.i64_in _ (by omega)), trivial⟩ (fun ρ402 w402 hm402 hR402 => ?_)
    have hag1 := hag1.moved (hm402.castL (by kernel_rfl))
    have hag := hag.moved (hm402.castL (by kernel_rfl))
    have hM := hM.moved (hm402.castL (by kernel_rfl))
    have hput := hput.moved (hm402.castL (by kernel_rfl))
    
    exact sim_again (i + 1, ins u.part v' clock (entL u.part nilRow clock l), clockAfter u.part l clock) (by kernel_rfl) (by show n - (i + 1) < n - i; omega) (by kernel_rfl) (by kernel_rfl) (by kernel_rfl) Agree.zero (Rel.cast (by assumption) (by kernel_rfl)) (by kernel_rfl) (by kernel_rfl) ⟨hlt, hM.cut hag1 rfl (by kernel_rfl), hput.cut hag1 rfl (by kernel_rfl), nets_none hu hnone, nets_keys hu hkeys _ _ _ _⟩
  · have hie : i = n := by omega
    subst hie
    refine sim_run 5 [] (hR2.cast (by kernel_rfl)) (by kernel_rfl) trivial (fun ρ300 w300 hm300 hR300 => ?_)
    have hM := hM.moved (hm300.castL (by kernel_rfl))
    have hrw := hrw.moved (hm300.castL (by kernel_rfl))
    have hag := hag.moved (hm300.castL (by kernel_rfl))
    refine sim_know 16 (decide ((↑(i, l, clock).fst : Int) < (↑i : Int))) false (by kernel_rfl) (decide_eq_false (by omega)) ?_
    refine sim_run 1 [] (hR300.cast (by kernel_rfl)) (by kernel_rfl) trivial (fun ρ301 w301 hm301 hR301 => ?_)
    have hM := hM.moved (hm301.castL (by kernel_rfl))
    have hrw := hrw.moved (hm301.castL (by kernel_rfl))
    have hag := hag.moved (hm301.castL (by kernel_rfl))
    refine sim_leave (by kernel_rfl) ?_
    refine sim_run 8 [] (hR301.cast (by kernel_rfl)) (by kernel_rfl) trivial (fun ρ302 w302 hm302 hR302 => ?_)
    have hM := hM.moved (hm302.castL (by kernel_rfl))
    have hrw := hrw.moved (hm302.castL (by kernel_rfl))
    have hag := hag.moved (hm302.castL (by kernel_rfl))
    refine sim_range (enc := encP) (encV := id) (mx := .v (Value.map (some gm))) (by kernel_rfl) mn_ty hM rfl hR302 (fun w303 it eit hb303 hI hR303 => ?_)
    have hit : w.heap.size ≤ it := by rw [eit]; exact (hR302).keeps.size
    have hM := hM.below hb303
    have hrw := hrw.below hb303
    refine sim_run 2 [] (hR303.cast (by kernel_rfl)) (by kernel_rfl) trivial (fun ρ304 w304 hm304 hR304 => ?_)
    have hag := hag.moved (hm304.castL (by kernel_rfl))
    have hI := hI.moved (hm304.castL (by kernel_rfl))
    have hM := hM.moved (hm304.castL (by kernel_rfl))
    have hrw := hrw.moved (hm304.castL (by kernel_rfl))
    
    have hps : ps.take i = ps := by rw [← hlen]; exact List.take_length
    have hle : ∀ a, (ptL a ps).length ≤ i := fun a => by have := ptL_len a ps i; rw [hps] at this; exact this
    rw [hps] at hrw hnone hkeys
    have hll : l.length ≤ i := by
      have h1 : (l.map (·.key)).length ≤ i := by rw [hkeys]; have := keysP_len ps []; simp only [List.length_nil] at this; omega
      simpa using h1
    refine sim_loop (ι := List (Ent Part Value) × Value) (T := []) (w0 := w) ([], .slice none 0 0) [2, 35] (fun x => [(7, .v x.2)]) (fun _ => []) (fun x w1 => x.1.length ≤ l.length ∧ MpO encP id ρ304 [] w1 (some gm) l clock ∧ ItO ρ304 [] w1 it (some gm) l clock x.1 ∧ Rws ρ304 [] w1 w.heap.size l (fun a => ptL a ps) ∧ Own ρ304 [] w1 w.heap.size 94 5 x.2 (x.1.map (·.key)).length ((x.1.map (·.key)).flatMap (encN (netF ps)))) (fun x => l.length - x.1.length) (by kernel_rfl) (by kernel_rfl) (hR304.cast (by kernel_rfl)) ⟨Nat.zero_le _, hM.castR (by kernel_rfl), hI.castR (by kernel_rfl), hrw.castR (by kernel_rfl), World.ownsRow_nil _ _ _ _, fun g hg => by cases hg⟩ ?_
    iterate 12 (try clear hM)
    iterate 12 (try clear hI)
    iterate 12 (try clear hrw)
    iterate 12 (try clear hag)
    rintro ⟨dn, vo⟩ d5 w5 hR5 ⟨hdn, hM, hI, hrw, hvo⟩
    dsimp only at hdn hM hI hrw hvo
    have hag := hR5.ag_ 0 (by kernel_rfl)
    refine sim_run 2 [] (hR5.cast (by kernel_rfl)) (by kernel_rfl) trivial (fun ρ600 w600 hm600 hR600 => ?_)
    have hM := hM.moved (hm600.castL (by kernel_rfl))
    have hI := hI.moved (hm600.castL (by kernel_rfl))
    have hrw := hrw.moved (hm600.castL (by kernel_rfl))
    have hvo := hvo.moved (hm600.castL (by kernel_rfl))
    have hag := hag.moved (hm600.castL (by kernel_rfl))
    
    refine sim_next (enc := encP) (encV := id) (x := .v (.pointer (some ⟨it, 0, none⟩))) (by kernel_rfl) hM hI rfl hit (by assumption : Rel _ _ _ _ _) (fun e w3 he hnd ht hI3 hR3 => ?_) (fun hall => ?_)
    · have hM := hM.turnI ht
      have hrw := hrw.turnI ht
      have hvo := hvo.turnI ht
      have hI := hI3
      clear hI3
      have hown := hrw.own e he
      have hdl := hI.ltG
      refine sim_run 8 [] (hR3.cast (by kernel_rfl)) (by kernel_rfl) trivial (fun ρ700 w700 hm700 hR700 => ?_)
      have hag := hag.moved (hm700.castL (by kernel_rfl))
      have hM := hM.moved (hm700.castL (by kernel_rfl))
      have hrw := hrw.moved (hm700.castL (by kernel_rfl))
      have hvo := hvo.moved (hm700.castL (by kernel_rfl))
      have hI := hI.moved (hm700.castL (by kernel_rfl))
      have hown := hown.moved (hm700.castL (by kernel_rfl))
      refine sim_entry (enc := encP) (encV := id) (x := .v (Value.pointer (some (Addr.mk it 0 none)))) e (by kernel_rfl) hM hI rfl ?_
      refine sim_run 13 [] (hR700.cast (by kernel_rfl)) (by kernel_rfl) trivial (fun ρ702 w702 hm702 hR702 => ?_)
      have hag := hag.moved (hm702.castL (by kernel_rfl))
      have hM := hM.moved (hm702.castL (by kernel_rfl))
      have hrw := hrw.moved (hm702.castL (by kernel_rfl))
      have hvo := hvo.moved (hm702.castL (by kernel_rfl))
      have hI := hI.moved (hm702.castL (by kernel_rfl))
      have hown := hown.moved (hm702.castL (by kernel_rfl))
      
      obtain ⟨Av, cv, hve⟩ := own_row hown.own
      refine sim_call 41 [.ptr 1 0, .v (id e.val)] (by kernel_rfl) ?_
      have hc := accAdd_any _ _ false Av _ cv (ptL e.key ps) _ ((hR702).at_cell 1 0 (LB false) (by kernel_rfl)) ((hR702).unfrozen (q := 1) (r := ⟨[LB false], true⟩) (by kernel_rfl) rfl (by show 0 < 1; omega)) _ (Reads.of_own (hve ▸ (hrw.own e he).own)) (ptL_64 hok _) (by have := hle e.key; omega)
      rw [← hve] at hc
      refine hc.mono ?_
      rintro e2 w7 ⟨rfl, ho⟩
      have hR7 := (hR702).orAt (q := 1) (x := false) (by kernel_rfl) ho
      have hM := hM.orAt (q := 1) (cs := [LB false]) (cs' := [LB (false || clampO (sumI (ptL e.key ps)))]) (by kernel_rfl) ho
      have hI := hI.orAt (q := 1) (cs := [LB false]) (cs' := [LB (false || clampO (sumI (ptL e.key ps)))]) (by kernel_rfl) ho
      have hrw := hrw.orAt (q := 1) (cs := [LB false]) (cs' := [LB (false || clampO (sumI (ptL e.key ps)))]) (by kernel_rfl) ho
      have hvo := hvo.orAt (q := 1) (cs := [LB false]) (cs' := [LB (false || clampO (sumI (ptL e.key ps)))]) (by kernel_rfl) ho
      refine Back.of (LI (clampV (sumI (ptL e.key ps)))) hR7 rfl ?_
      have hkl : (dn.map (·.key)).length = dn.length := List.length_map ..
      refine sim_run 10 [] (hR7.cast (by kernel_rfl)) (by kernel_rfl) trivial (fun ρ900 w900 hm900 hR900 => ?_)
      have hM := hM.moved (hm900.castL (by kernel_rfl))
      have hI := hI.moved (hm900.castL (by kernel_rfl))
      have hrw := hrw.moved (hm900.castL (by kernel_rfl))
      have hvo := hvo.moved (hm900.castL (by kernel_rfl))
      
      have hsz9 := (hR900).keeps.size
      refine sim_appendO 87 vo (.slc 2 0 1 1) (by kernel_rfl) (hR900.cast (by kernel_rfl)) net_ty (hvo.castR (by kernel_rfl)) 2 1 1 rfl [LS e.key.1.1, LS e.key.1.2, LI e.key.2, LI (clampV (sumI (ptL e.key ps))), LB (false || clampO (sumI (ptL e.key ps)))] (by kernel_rfl) rfl (by kernel_rfl) (by unfold maxLen; omega) (by omega) (hR900).keeps.size (fun g' hg' => .inr (own_ge hvo.own hg')) [] (by kernel_rfl) (fun k0 hk0 => by simp at hk0) (fun v' w12 hvo' hgr hR12 => ?_)
      have hM := hM.grownO hvo.own hgr
      have hI := hI.grownO hvo.own hgr
      have hrw := hrw.grownN hvo.own (by decide) hgr
      have hvo := hvo'
      clear hvo'
      refine sim_run 3 [] (hR12.cast (by kernel_rfl)) (by kernel_rfl) trivial (fun ρ1100 w1100 hm1100 hR1100 => ?_)
      have hM := hM.moved (hm1100.castL (by kernel_rfl))
      have hI := hI.moved (hm1100.castL (by kernel_rfl))
      have hrw := hrw.moved (hm1100.castL (by kernel_rfl))
      have hvo := hvo.moved (hm1100.castL (by kernel_rfl))
      
      exact sim_again (dn ++ [e], v') (by kernel_rfl) (by show l.length - (dn ++ [e]).length < l.length - dn.length; rw [List.length_append, List.length_singleton]; omega) (by kernel_rfl) (by kernel_rfl) (by kernel_rfl) Agree.zero (Rel.cast (by assumption) (by kernel_rfl)) (by kernel_rfl) (by kernel_rfl) ⟨hI.leG, hM.cut ⟨Agree.zero, Nat.zero_le _⟩ rfl (by kernel_rfl), hI.cut ⟨Agree.zero, Nat.zero_le _⟩ rfl (by kernel_rfl), hrw.cut ⟨Agree.zero, Nat.zero_le _⟩ rfl (by kernel_rfl), by
        show Own _ _ _ _ _ _ v' ((dn ++ [e]).map (·.key)).length (((dn ++ [e]).map (·.key)).flatMap (encN (netF ps)))
        rw [List.map_append, List.flatMap_append, List.length_append]
        exact hvo.cut ⟨Agree.zero, Nat.zero_le _⟩ rfl (by kernel_rfl)⟩
    · refine sim_run 4 [] (hR600.cast (by kernel_rfl)) (by kernel_rfl) trivial (fun ρ800 w800 hm800 hR800 => ?_)
      have hM := hM.moved (hm800.castL (by kernel_rfl))
      have hI := hI.moved (hm800.castL (by kernel_rfl))
      have hrw := hrw.moved (hm800.castL (by kernel_rfl))
      have hvo := hvo.moved (hm800.castL (by kernel_rfl))
      have hag := hag.moved (hm800.castL (by kernel_rfl))
      refine sim_leave (by kernel_rfl) ?_
      refine sim_run 3 [] (hR800.cast (by kernel_rfl)) (by kernel_rfl) trivial (fun ρ801 w801 hm801 hR801 => ?_)
      have hM := hM.moved (hm801.castL (by kernel_rfl))
      have hI := hI.moved (hm801.castL (by kernel_rfl))
      have hrw := hrw.moved (hm801.castL (by kernel_rfl))
      have hvo := hvo.moved (hm801.castL (by kernel_rfl))
      have hag := hag.moved (hm801.castL (by kernel_rfl))
      
      have hkl : (dn.map (·.key)).length = dn.length := List.length_map ..
      obtain ⟨Av, cv, hve⟩ := own_row hvo.own
      subst hve
      refine sim_call 78 [.v (.slice Av (dn.map (·.key)).length cv), .v (.func (.func 79) #[] #[])] (by kernel_rfl) ?_
      have hlt5 : (dn.map (·.key)).length < 4611686018427387904 := by rw [hkl]; omega
      have hs := sortNets_any (netF ps) w.heap.size (dn.map (·.key)).length cv Av (dn.map (·.key)) w801 hvo.own rfl hlt5
      refine hs.mono ?_

      rintro e5 w5' ⟨rfl, ho5, hk5⟩
      have hR5 := (Rel.cast (rs' := []) hR801 (by kernel_rfl)).kept hk5 (fun n' r hn' _ hs => by simp at hn') (fun x hx => .inr (by
        obtain ⟨a, rfl, ha⟩ := hx
        have h1 := own_ge (g := a.block) hvo.own rfl
        omega))
      have hv5 := Own.none0 (ρ := ρ801) ho5
      refine Back.of (.tup []) hR5 rfl ?_
      refine sim_run 6 [] (hR5.cast (by kernel_rfl)) (by kernel_rfl) trivial (fun ρ1000 w1000 hm1000 hR1000 => ?_)
      have hag := hag.moved (hm1000.castL (by kernel_rfl))
      have hv5 := hv5.moved (hm1000.castL (by kernel_rfl))
      refine sim_ret (.v (Value.slice Av (List.map (fun x => x.key) dn).length cv)) hR1000 (by kernel_rfl) (by kernel_rfl) ?_
      
      have hpm : dn.Perm l := (List.perm_ext_iff_of_nodup (nodup_map hI.nodup) (nodup_map hM.fine.borns)).2 fun e => ⟨hI.sub e, hall e⟩
      rw [← nets_end hkeys hpm]
      refine ⟨⟨Av, cv, by rw [sortPs_len]; rfl, ?_⟩, ((by assumption : Rel _ _ _ _ _)).toBelow⟩
      rw [sortPs_len]
      exact hv5.own
end
end Go.Proofs.Ytgbgedaedcofcaa
