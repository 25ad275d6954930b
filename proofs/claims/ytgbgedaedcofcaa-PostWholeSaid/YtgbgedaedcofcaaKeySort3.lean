/-
  slices.SortFunc at structs, off the shelf, over a row of one's own: what it leaves. Over any program.
  slices.SortFunc at api.Key, off the shelf.
  Positions' keys sorted by slices.SortFunc with pos.Before.
-/
import Derived.Test.YtgbgedaedcofcaaSimO
import Derived.Shelf.SlSortCmp.NoneTotal
import Derived.Test.YtgbgedaedcofcaaProg
import Derived.Test.YtgbgedaedcofcaaSimHN
import Derived.Test.YtgbgedaedcofcaaBefX4
namespace Go.Proofs.Ytgbgedaedcofcaa
section
section
open Go Go.RowKit Go.Sort

/-- only blocks of A's turned -/
def inA (A : Option Addr) (x : Nat) : Prop := ∃ a, A = some a ∧ a.block = x
section
variable {α : Type} [Inhabited α] {enc : α → List Value} {k : Nat}
omit [Inhabited α] in
theorem flatMap_len (hk : ∀ x, (enc x).length = k) : ∀ xs : List α, (xs.flatMap enc).length = xs.length * k
  | [] => by simp
  | x :: xs => by rw [List.flatMap_cons, List.length_append, flatMap_len hk xs, hk, List.length_cons, Nat.succ_mul]; omega
omit [Inhabited α] in
theorem flatMap_get (hk : ∀ x, (enc x).length = k) {xs : List α} {i : Nat} {x : α} (hx : xs[i]? = some x) {j : Nat} {v : Value} (hv : (enc x)[j]? = some v) : (xs.flatMap enc)[i * k + j]? = some v := by
  rw [List.flatMap_def]
  refine flat_get (xs.map enc) i (enc x) (fun y hy => ?_) (by rw [List.getElem?_map, hx]; rfl) j v hv
  obtain ⟨z, _, rfl⟩ := List.mem_map.1 hy
  exact hk z
theorem flatK_eq (hk : ∀ x, (enc x).length = k) (xs : List α) : flatK enc k xs.toArray = (xs.flatMap enc).toArray := by
  apply ext_get!
  · rw [size_flatK]
    simp [flatMap_len hk]
  · intro t ht
    rw [size_flatK] at ht
    rw [get_flatK _ _ _ _ ht]
    have ht' : t < xs.length * k := by simpa using ht
    have hk0 : 0 < k := by
      rcases Nat.eq_zero_or_pos k with h | h
      · rw [h] at ht'; omega
      · exact h
    have h1 : t / k < xs.length := Nat.div_lt_of_lt_mul (by rw [Nat.mul_comm]; exact ht')
    have h2 : t % k < k := Nat.mod_lt _ hk0
    have hx : xs[t / k]? = some xs[t / k] := List.getElem?_eq_getElem h1
    have hv : (enc xs[t / k])[t % k]? = some ((enc xs[t / k])[t % k]'(by rw [hk]; exact h2)) := List.getElem?_eq_getElem (by rw [hk]; exact h2)
    have h3 := flatMap_get hk hx hv
    have e : t / k * k + t % k = t := Nat.div_add_mod' t k
    rw [e] at h3
    have e1 : xs.toArray[t / k]! = xs[t / k] := by simp [h1]
    rw [e1, getElem!_pos (enc xs[t / k]) (t % k) (by rw [hk]; exact h2)]
    simp [h3]
theorem holdsK_own (hk : ∀ x, (enc x).length = k) {w : World} {base g n cap : Nat} {e : TypeId} {xs : List α} (hl : xs.length = n) (h : w.ownsRow base e k (.slice (some ⟨g, 0, none⟩) n cap) n (xs.flatMap enc)) : HoldsK enc k w g 0 xs.toArray := by
  rcases h.2 with ⟨h0, _⟩ | ⟨g', cap', cur, h0, _, hb, h3, _, h5, h6⟩
  · cases h0
  · injection h0 with h0 h0' h0''
    injection h0 with h0
    injection h0 with h0
    subst h0
    intro j hj
    rw [size_flatK] at hj
    have hj' : j < n * k := by rw [← hl]; simpa using hj
    have hc : j < cur.size := by rw [h5]; exact Nat.lt_of_lt_of_le hj' (Nat.mul_le_mul_right k h3)
    refine ⟨?_, ?_⟩
    · rw [flatK_eq hk]
      unfold World.cell?
      simp only [Nat.zero_add, hb]
      have h7 : (xs.flatMap enc)[j]? = cur.toList[j]? := by rw [← h6, List.getElem?_take, if_pos hj']
      have h8 : cur[j]? = some cur[j] := Array.getElem?_eq_getElem hc
      have h9 : (xs.flatMap enc)[j]? = some cur[j] := by rw [h7, Array.getElem?_toList, h8]
      simp [h9]
    · simp [World.frozen?, hb]
theorem own_sortWorld (hk : ∀ x, (enc x).length = k) {w : World} {base g n cap : Nat} {e : TypeId} {xs ys : List α} (_ : xs.length = n) (hy : ys.length = n) (h : w.ownsRow base e k (.slice (some ⟨g, 0, none⟩) n cap) n (xs.flatMap enc)) (m : Nat) (os : Array Obj) :
    (sortWorldK enc k w g 0 m ys.toArray os).ownsRow base e k (.slice (some ⟨g, 0, none⟩) n cap) n (ys.flatMap enc) ∧ Kept (fun x => x = g) w (sortWorldK enc k w g 0 m ys.toArray os) := by
  rcases h.2 with ⟨h0, _⟩ | ⟨g', cap', cur, h0, h1, hb, h3, h4, h5, h6⟩
  · cases h0
  · injection h0 with h0 h0' h0''
    injection h0 with h0
    injection h0 with h0
    subst h0
    subst h0''
    have hlt : g < w.heap.size := by
      rcases Nat.lt_or_ge g w.heap.size with h7 | h7
      · exact h7
      · rw [Array.getElem?_eq_none h7] at hb; cases hb
    have hfl : (ys.flatMap enc).length = n * k := by rw [flatMap_len hk, hy]
    have heap : ∀ i, i < w.heap.size → (sortWorldK enc k w g 0 m ys.toArray os).heap[i]? = if i = g then some (.cells (putCells id 0 (ys.flatMap enc).toArray cur) e (0, 0)) else w.heap[i]? := by
      intro i hi
      unfold sortWorldK putRowK putRow
      rw [heap_grow_old _ _ (by simpa [mapBlock, ahead] using hi), flatK_eq hk]
      simp only [mapBlock, Array.getElem?_modify]
      by_cases hig : g = i
      · subst hig
        simp [hb, onCells]
      · rw [if_neg hig, if_neg (fun e => hig e.symm)]
        rfl
    refine ⟨⟨hfl, .inr ⟨g, cap, putCells id 0 (ys.flatMap enc).toArray cur, rfl, h1, ?_, h3, h4, ?_, ?_⟩⟩, ⟨rfl, rfl, rfl, ?_, fun i hi hne => ?_⟩⟩
    · rw [heap g hlt, if_pos rfl]
    · simp [putCells, h5]
    · apply List.ext_getElem?
      intro i
      rw [List.getElem?_take]
      by_cases hi : i < n * k
      · have hi2 : i < cur.size := by rw [h5]; exact Nat.lt_of_lt_of_le hi (Nat.mul_le_mul_right k h3)
        rw [if_pos hi]
        simp only [putCells, Array.toList_mapIdx, List.getElem?_mapIdx, Array.getElem?_toList, Array.getElem?_eq_getElem hi2, Option.map_some, Nat.zero_le, true_and, List.size_toArray, hfl, Nat.zero_add, if_pos hi, Nat.sub_zero, id]
        rw [List.getElem?_eq_getElem (by rw [hfl]; exact hi)]
        simp [hfl, hi]
      · rw [if_neg hi, List.getElem?_eq_none (by rw [hfl]; omega)]
    · simp [sortWorldK, putRowK]
    · rw [heap i hi, if_neg hne]
end
end
end

section
open Go Go.Shelf Go.RowKit
attribute [local irreducible] run goO goN ordGoN eqlOf eqlOper eqlOfO cellL leaveK someK nextK nextT nextOT nextOD loopBody loopRest loopK fillJ tmplOf tmplJ mergeT At AtO drawOk ordOf gateOf callC callO topOp topO idxOf appOf storeOf clearOf sliceOf calleeOf calleeO topQ idxQ newRowOf resL stepOp seek

def renFKey : Nat → Nat
  | 6 => 38
  | 14 => 50
  | 15 => 51
  | 20 => 65
  | 21 => 66
  | 22 => 67
  | 23 => 68
  | 24 => 69
  | 25 => 70
  | 26 => 71
  | 27 => 72
  | 28 => 73
  | 29 => 74
  | 46 => 82
  | 47 => 83
  | 48 => 84
  | 49 => 85
  | 50 => 86
  | 57 => 90
  | k => k
def renTKey : Nat → Nat
  | 0 => 0
  | 3 => 3
  | 4 => 4
  | 5 => 5
  | 9 => 9
  | 22 => 35
  | 24 => 24
  | 25 => 80
  | 39 => 104
  | 45 => 118
  | 46 => 119
  | 50 => 123
  | 53 => 126
  | 55 => 106
  | 66 => 135
  | 70 => 139
  | 76 => 145
  | 77 => 146
  | k => k
def renSKey : Ren := ⟨renFKey, renTKey, fun k => k⟩
set_option maxRecDepth 100000 in
theorem laysSKey : SlLaysF0.n6 Try.prog renSKey where
  mixed := by kernel_rfl
  f6 := Exists.intro "slices.SortFunc[[]compline/api.Key,compline/api.Key]" ⟨by kernel_rfl, by kernel_rfl⟩
  f14 := Exists.intro "slices.pdqsortCmpFunc[compline/api.Key]" ⟨by kernel_rfl, by kernel_rfl⟩
  f15 := by kernel_rfl
  f20 := Exists.intro "slices.insertionSortCmpFunc[compline/api.Key]" ⟨by kernel_rfl, by kernel_rfl⟩
  f21 := Exists.intro "slices.heapSortCmpFunc[compline/api.Key]" ⟨by kernel_rfl, by kernel_rfl⟩
  f22 := Exists.intro "slices.breakPatternsCmpFunc[compline/api.Key]" ⟨by kernel_rfl, by kernel_rfl⟩
  f23 := Exists.intro "slices.choosePivotCmpFunc[compline/api.Key]" ⟨by kernel_rfl, by kernel_rfl⟩
  f24 := Exists.intro "slices.reverseRangeCmpFunc[compline/api.Key]" ⟨by kernel_rfl, by kernel_rfl⟩
  f25 := Exists.intro "slices.partialInsertionSortCmpFunc[compline/api.Key]" ⟨by kernel_rfl, by kernel_rfl⟩
  f26 := Exists.intro "slices.partitionEqualCmpFunc[compline/api.Key]" ⟨by kernel_rfl, by kernel_rfl⟩
  f27 := Exists.intro "slices.partitionCmpFunc[compline/api.Key]" ⟨by kernel_rfl, by kernel_rfl⟩
  f28 := by kernel_rfl
  f29 := by kernel_rfl
  f46 := Exists.intro "slices.siftDownCmpFunc[compline/api.Key]" ⟨by kernel_rfl, by kernel_rfl⟩
  f47 := by kernel_rfl
  f48 := by kernel_rfl
  f49 := Exists.intro "slices.medianAdjacentCmpFunc[compline/api.Key]" ⟨by kernel_rfl, by kernel_rfl⟩
  f50 := Exists.intro "slices.medianCmpFunc[compline/api.Key]" ⟨by kernel_rfl, by kernel_rfl⟩
  f57 := Exists.intro "slices.order2CmpFunc[compline/api.Key]" ⟨by kernel_rfl, by kernel_rfl⟩
  t0 := by kernel_rfl
  a0 := fun _ => by kernel_rfl
  z0 := fun _ => by kernel_rfl
  v0 := fun _ => by kernel_rfl
  t3 := by kernel_rfl
  a3 := fun _ => by kernel_rfl
  z3 := fun _ => by kernel_rfl
  v3 := fun _ => by kernel_rfl
  t4 := by kernel_rfl
  a4 := fun _ => by kernel_rfl
  z4 := fun _ => by kernel_rfl
  v4 := fun _ => by kernel_rfl
  t5 := by kernel_rfl
  a5 := fun _ => by kernel_rfl
  z5 := fun _ => by kernel_rfl
  v5 := fun _ => by kernel_rfl
  t9 := by kernel_rfl
  a9 := fun _ => by kernel_rfl
  z9 := fun _ => by kernel_rfl
  v9 := fun _ => by kernel_rfl
  t22 := by kernel_rfl
  a22 := fun _ => by kernel_rfl
  z22 := fun _ => by kernel_rfl
  v22 := fun _ => by kernel_rfl
  t25 := by kernel_rfl
  a25 := fun _ => by kernel_rfl
  z25 := fun _ => by kernel_rfl
  v25 := fun _ => by kernel_rfl
  t39 := by kernel_rfl
  a39 := fun _ => by kernel_rfl
  z39 := fun _ => by kernel_rfl
  v39 := fun _ => by kernel_rfl
  t45 := by kernel_rfl
  a45 := fun _ => by kernel_rfl
  z45 := fun _ => by kernel_rfl
  v45 := fun _ => by kernel_rfl
  t46 := by kernel_rfl
  a46 := fun _ => by kernel_rfl
  z46 := fun _ => by kernel_rfl
  v46 := fun _ => by kernel_rfl
  t50 := by kernel_rfl
  a50 := fun _ => by kernel_rfl
  z50 := fun _ => by kernel_rfl
  v50 := fun _ => by kernel_rfl
  t53 := by kernel_rfl
  a53 := fun _ => by kernel_rfl
  z53 := fun _ => by kernel_rfl
  v53 := fun _ => by kernel_rfl
  t55 := by kernel_rfl
  a55 := fun _ => by kernel_rfl
  z55 := fun _ => by kernel_rfl
  v55 := fun _ => by kernel_rfl
  t66 := by kernel_rfl
  a66 := fun _ => by kernel_rfl
  z66 := fun _ => by kernel_rfl
  v66 := fun _ => by kernel_rfl
  t70 := by kernel_rfl
  a70 := fun _ => by kernel_rfl
  z70 := fun _ => by kernel_rfl
  v70 := fun _ => by kernel_rfl
  t76 := by kernel_rfl
  a76 := fun _ => by kernel_rfl
  z76 := fun _ => by kernel_rfl
  v76 := fun _ => by kernel_rfl
  t77 := by kernel_rfl
  a77 := fun _ => by kernel_rfl
  z77 := fun _ => by kernel_rfl
  v77 := fun _ => by kernel_rfl
end

section
open Go Go.RowKit Go.Sort

def encL (k : Key) : List Value := [.string k.1, .string k.2]
def ltK (x y : Key) : Bool := ltS x.1 y.1 || (decide (x.1 = y.1) && ltS x.2 y.2)
theorem cmpS_lt (a b : ByteArray) : (cmpS a b < 0 ↔ ltS a b = true) ∧ (cmpS a b = 0 ↔ a = b) := by
  unfold cmpS
  cases h : ltS a b with
  | true =>
    simp only [if_true]
    refine ⟨by simp, by simp, ?_⟩
    rintro rfl
    rw [ltS_irrefl] at h
    cases h
  | false =>
    cases h2 : ltS b a with
    | true =>
      simp only [Bool.false_eq_true, if_false, if_true]
      refine ⟨by simp, by simp, ?_⟩
      rintro rfl
      rw [ltS_irrefl] at h2
      cases h2
    | false =>
      simp only [Bool.false_eq_true, if_false]
      exact ⟨by simp, by simp [ltS_total h h2]⟩
theorem ltOf_cmpK (x y : Key) : ltOf cmpK x y = ltK x y := by
  obtain ⟨a, b⟩ := x
  obtain ⟨c, d⟩ := y
  unfold ltOf cmpK ltK orZ
  dsimp only
  by_cases e : a = c
  · subst e
    have h0 := (cmpS_lt a a).2.2 rfl
    rw [h0, if_pos rfl, ltS_irrefl]
    simp only [decide_true, Bool.true_and, Bool.false_or]
    rw [Bool.eq_iff_iff, decide_eq_true_iff]
    exact (cmpS_lt b d).1
  · have h0 : cmpS a c ≠ 0 := fun h => e ((cmpS_lt a c).2.1 h)
    rw [if_neg h0, decide_eq_false e, Bool.false_and, Bool.or_false, Bool.eq_iff_iff, decide_eq_true_iff]
    exact (cmpS_lt a c).1
theorem ltK_irrefl (x : Key) : ltK x x = false := by simp [ltK, ltS_irrefl]
theorem ltK_trans {x y z : Key} (h : ltK x y = true) (h' : ltK y z = true) : ltK x z = true := by
  obtain ⟨a, b⟩ := x
  obtain ⟨c, d⟩ := y
  obtain ⟨e, f⟩ := z
  simp only [ltK, Bool.or_eq_true, Bool.and_eq_true, decide_eq_true_eq] at *
  rcases h with h | ⟨rfl, h⟩ <;> rcases h' with h' | ⟨rfl, h'⟩
  · exact .inl (ltS_trans h h')
  · exact .inl h
  · exact .inl h'
  · exact .inr ⟨rfl, ltS_trans h h'⟩
theorem ltK_total {x y : Key} (h : ltK x y = false) (h' : ltK y x = false) : x = y := by
  obtain ⟨a, b⟩ := x
  obtain ⟨c, d⟩ := y
  simp only [ltK, Bool.or_eq_false_iff, Bool.and_eq_false_iff, decide_eq_false_iff_not] at *
  obtain ⟨h1, h2⟩ := h
  obtain ⟨h3, h4⟩ := h'
  have e := ltS_total h1 h3
  subst e
  rw [ltS_total (h2.resolve_left (fun h => h rfl)) (h4.resolve_left (fun h => h rfl))]
theorem swoK : SWO (ltOf cmpK) where
  irrefl x := by rw [ltOf_cmpK]; exact ltK_irrefl x
  trans x y z h1 h2 := by rw [ltOf_cmpK] at *; exact ltK_trans h1 h2
  ntrans x y z h1 h2 := by
    rw [ltOf_cmpK] at *
    cases h : ltK x z with
    | false => rfl
    | true =>
      cases h3 : ltK y x with
      | true => rw [ltK_trans h3 h] at h2; cases h2
      | false =>
        have e := ltK_total h1 h3
        subst e
        rw [h] at h2
        cases h2
def leK (x y : Key) : Bool := !ltK y x
def sortKs (ks : List Key) : List Key := ks.mergeSort leK
theorem sortKs_len (ks : List Key) : (sortKs ks).length = ks.length := List.length_mergeSort ..
theorem sortKeys_any (base n cp : Nat) (A : Option Addr) (ks : List Key) (w : World) (h : w.ownsRow base 24 2 (.slice A n cp) n (ks.flatMap encL)) (hl : ks.length = n) (hn : n < 4611686018427387904) :
    Calls Try.prog 38 #[.slice A n cp, .func (.func 39) #[] #[]] w fun e w' => e = .returned (.tuple #[]) ∧ w'.ownsRow base 24 2 (.slice A n cp) n ((sortKs ks).flatMap encL) ∧ Kept (inA A) w w' := by
  have hs : (fun x y => !(ltOf cmpK) y x) = leK := by funext x y; rw [ltOf_cmpK]; rfl
  cases A with
  | none =>
    have h0 : n = 0 := by
      rcases h.2 with ⟨_, h0⟩ | ⟨g, cap, cur, e, _⟩
      · exact h0
      · cases e
    subst h0
    have hk : ks = [] := List.eq_nil_of_length_eq_zero hl
    subst hk
    refine (AnyF.slices_SortFunc_none laysSKey none cp (.func (.func 39) #[] #[]) w).mono ?_
    rintro e w' ⟨he, rfl⟩
    rw [show sortKs [] = [] from List.mergeSort_nil ..]
    exact ⟨he, h, Kept.refl _ _⟩
  | some a =>
    obtain ⟨g, rfl⟩ : ∃ g, a = ⟨g, 0, none⟩ := by
      rcases h.2 with ⟨e, _⟩ | ⟨g, cap, cur, e, _⟩
      · cases e
      · injection e with e; injection e with e; exact ⟨g, e⟩
    have hg : g < w.heap.size := own_lt h rfl
    subst hl
    have hc := AnyQ.slices_SortFunc_total (P := Try.prog) laysSKey 2 (fun _ => by kernel_rfl) (fun _ => by kernel_rfl) encL (fun _ => rfl) (fun x v hv => by simp [encL] at hv; rcases hv with rfl | rfl <;> rfl) cmpK swoK 39 #[] g 0 cp ks.toArray w
      (enters_of Try.func39 (by kernel_rfl) rfl) (fun m os dk _ x y => before_x x y _) (holdsK_own (enc := encL) (k := 2) (fun _ => rfl) rfl h) hg (by simpa using hn) (fun x y h1 h2 => by rw [ltOf_cmpK] at *; exact ltK_total h1 h2)
    rw [hs, show renSKey.f 6 = 38 from rfl] at hc
    refine Calls.mono (by simpa using hc) ?_
    rintro e w' ⟨he, m, os, rfl⟩
    obtain ⟨h1, h2⟩ := own_sortWorld (enc := encL) (fun _ => rfl) rfl (sortKs_len ks) h m os
    exact ⟨he, h1, h2.mono (fun x hx => .inl ⟨_, rfl, hx.symm⟩)⟩
end
end Go.Proofs.Ytgbgedaedcofcaa
