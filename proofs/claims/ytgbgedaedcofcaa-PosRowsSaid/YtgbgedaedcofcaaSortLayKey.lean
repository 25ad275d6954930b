/-
  slices.SortFunc at api.Key, off the shelf.
-/
import Derived.Test.YtgbgedaedcofcaaProg
import Derived.Test.YtgbgedaedcofcaaSimHN
import Derived.Shelf.SlSortCmp.NoneTotal
namespace Go.Proofs.Ytgbgedaedcofcaa
open Go Go.Shelf Go.RowKit
attribute [local irreducible] run goO goN ordGoN eqlOf eqlOper eqlOfO cellL leaveK someK nextK nextT nextOT nextOD loopBody loopRest loopK fillJ tmplOf tmplJ mergeT At AtO drawOk ordOf gateOf callC callO topOp topO idxOf appOf storeOf clearOf sliceOf calleeOf calleeO topQ idxQ newRowOf resL stepOp seek

def renFKey : Nat → Nat
  | 6 => 38
  | 14 => 50
  | 15 => 51
  | 20 => 65
  | 21 => 66
  | 22 => 67
  | 23 => 68
  | 24 => 69
  | 25 => 70
  | 26 => 71
  | 27 => 72
  | 28 => 73
  | 29 => 74
  | 46 => 82
  | 47 => 83
  | 48 => 84
  | 49 => 85
  | 50 => 86
  | 57 => 90
  | k => k
def renTKey : Nat → Nat
  | 0 => 0
  | 3 => 3
  | 4 => 4
  | 5 => 5
  | 9 => 9
  | 22 => 35
  | 24 => 24
  | 25 => 80
  | 39 => 104
  | 45 => 118
  | 46 => 119
  | 50 => 123
  | 53 => 126
  | 55 => 106
  | 66 => 135
  | 70 => 139
  | 76 => 145
  | 77 => 146
  | k => k
def renSKey : Ren := ⟨renFKey, renTKey, fun k => k⟩
set_option maxRecDepth 100000 in
theorem laysSKey : SlLaysF0.n6 Try.prog renSKey where
  mixed := by kernel_rfl
  f6 := Exists.intro "slices.SortFunc[[]compline/api.Key,compline/api.Key]" ⟨by kernel_rfl, by kernel_rfl⟩
  f14 := Exists.intro "slices.pdqsortCmpFunc[compline/api.Key]" ⟨by kernel_rfl, by kernel_rfl⟩
  f15 := by kernel_rfl
  f20 := Exists.intro "slices.insertionSortCmpFunc[compline/api.Key]" ⟨by kernel_rfl, by kernel_rfl⟩
  f21 := Exists.intro "slices.heapSortCmpFunc[compline/api.Key]" ⟨by kernel_rfl, by kernel_rfl⟩
  f22 := Exists.intro "slices.breakPatternsCmpFunc[compline/api.Key]" ⟨by kernel_rfl, by kernel_rfl⟩
  f23 := Exists.intro "slices.choosePivotCmpFunc[compline/api.Key]" ⟨by kernel_rfl, by kernel_rfl⟩
  f24 := Exists.intro "slices.reverseRangeCmpFunc[compline/api.Key]" ⟨by kernel_rfl, by kernel_rfl⟩
  f25 := Exists.intro "slices.partialInsertionSortCmpFunc[compline/api.Key]" ⟨by kernel_rfl, by kernel_rfl⟩
  f26 := Exists.intro "slices.partitionEqualCmpFunc[compline/api.Key]" ⟨by kernel_rfl, by kernel_rfl⟩
  f27 := Exists.intro "slices.partitionCmpFunc[compline/api.Key]" ⟨by kernel_rfl, by kernel_rfl⟩
  f28 := by kernel_rfl
  f29 := by kernel_rfl
  f46 := Exists.intro "slices.siftDownCmpFunc[compline/api.Key]" ⟨by kernel_rfl, by kernel_rfl⟩
  f47 := by kernel_rfl
  f48 := by kernel_rfl
  f49 := Exists.intro "slices.medianAdjacentCmpFunc[compline/api.Key]" ⟨by kernel_rfl, by kernel_rfl⟩
  f50 := Exists.intro "slices.medianCmpFunc[compline/api.Key]" ⟨by kernel_rfl, by kernel_rfl⟩
  f57 := Exists.intro "slices.order2CmpFunc[compline/api.Key]" ⟨by kernel_rfl, by kernel_rfl⟩
  t0 := by kernel_rfl
  a0 := fun _ => by kernel_rfl
  z0 := fun _ => by kernel_rfl
  v0 := fun _ => by kernel_rfl
  t3 := by kernel_rfl
  a3 := fun _ => by kernel_rfl
  z3 := fun _ => by kernel_rfl
  v3 := fun _ => by kernel_rfl
  t4 := by kernel_rfl
  a4 := fun _ => by kernel_rfl
  z4 := fun _ => by kernel_rfl
  v4 := fun _ => by kernel_rfl
  t5 := by kernel_rfl
  a5 := fun _ => by kernel_rfl
  z5 := fun _ => by kernel_rfl
  v5 := fun _ => by kernel_rfl
  t9 := by kernel_rfl
  a9 := fun _ => by kernel_rfl
  z9 := fun _ => by kernel_rfl
  v9 := fun _ => by kernel_rfl
  t22 := by kernel_rfl
  a22 := fun _ => by kernel_rfl
  z22 := fun _ => by kernel_rfl
  v22 := fun _ => by kernel_rfl
  t25 := by kernel_rfl
  a25 := fun _ => by kernel_rfl
  z25 := fun _ => by kernel_rfl
  v25 := fun _ => by kernel_rfl
  t39 := by kernel_rfl
  a39 := fun _ => by kernel_rfl
  z39 := fun _ => by kernel_rfl
  v39 := fun _ => by kernel_rfl
  t45 := by kernel_rfl
  a45 := fun _ => by kernel_rfl
  z45 := fun _ => by kernel_rfl
  v45 := fun _ => by kernel_rfl
  t46 := by kernel_rfl
  a46 := fun _ => by kernel_rfl
  z46 := fun _ => by kernel_rfl
  v46 := fun _ => by kernel_rfl
  t50 := by kernel_rfl
  a50 := fun _ => by kernel_rfl
  z50 := fun _ => by kernel_rfl
  v50 := fun _ => by kernel_rfl
  t53 := by kernel_rfl
  a53 := fun _ => by kernel_rfl
  z53 := fun _ => by kernel_rfl
  v53 := fun _ => by kernel_rfl
  t55 := by kernel_rfl
  a55 := fun _ => by kernel_rfl
  z55 := fun _ => by kernel_rfl
  v55 := fun _ => by kernel_rfl
  t66 := by kernel_rfl
  a66 := fun _ => by kernel_rfl
  z66 := fun _ => by kernel_rfl
  v66 := fun _ => by kernel_rfl
  t70 := by kernel_rfl
  a70 := fun _ => by kernel_rfl
  z70 := fun _ => by kernel_rfl
  v70 := fun _ => by kernel_rfl
  t76 := by kernel_rfl
  a76 := fun _ => by kernel_rfl
  z76 := fun _ => by kernel_rfl
  v76 := fun _ => by kernel_rfl
  t77 := by kernel_rfl
  a77 := fun _ => by kernel_rfl
  z77 := fun _ => by kernel_rfl
  v77 := fun _ => by kernel_rfl
end Go.Proofs.Ytgbgedaedcofcaa
