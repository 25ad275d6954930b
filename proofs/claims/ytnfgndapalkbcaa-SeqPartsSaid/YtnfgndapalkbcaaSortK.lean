/-
  slices.SortFunc at structs, off the shelf, over a row of one's own: what it leaves. Over any program.
-/
import Derived.Test.YtnfgndapalkbcaaSimO
import Derived.Shelf.SlSortCmp.NoneTotal
namespace Go.Proofs.Ytnfgndapalkbcaa
open Go Go.RowKit Go.Sort

/-- only blocks of A's turned -/
def inA (A : Option Addr) (x : Nat) : Prop := ∃ a, A = some a ∧ a.block = x
section
variable {α : Type} [Inhabited α] {enc : α → List Value} {k : Nat}
omit [Inhabited α] in
theorem flatMap_len (hk : ∀ x, (enc x).length = k) : ∀ xs : List α, (xs.flatMap enc).length = xs.length * k
  | [] => by simp
  | x :: xs => by rw [List.flatMap_cons, List.length_append, flatMap_len hk xs, hk, List.length_cons, Nat.succ_mul]; omega
omit [Inhabited α] in
theorem flatMap_get (hk : ∀ x, (enc x).length = k) {xs : List α} {i : Nat} {x : α} (hx : xs[i]? = some x) {j : Nat} {v : Value} (hv : (enc x)[j]? = some v) : (xs.flatMap enc)[i * k + j]? = some v := by
  rw [List.flatMap_def]
  refine flat_get (xs.map enc) i (enc x) (fun y hy => ?_) (by rw [List.getElem?_map, hx]; rfl) j v hv
  obtain ⟨z, _, rfl⟩ := List.mem_map.1 hy
  exact hk z
theorem flatK_eq (hk : ∀ x, (enc x).length = k) (xs : List α) : flatK enc k xs.toArray = (xs.flatMap enc).toArray := by
  apply ext_get!
  · rw [size_flatK]
    simp [flatMap_len hk]
  · intro t ht
    rw [size_flatK] at ht
    rw [get_flatK _ _ _ _ ht]
    have ht' : t < xs.length * k := by simpa using ht
    have hk0 : 0 < k := by
      rcases Nat.eq_zero_or_pos k with h | h
      · rw [h] at ht'; omega
      · exact h
    have h1 : t / k < xs.length := Nat.div_lt_of_lt_mul (by rw [Nat.mul_comm]; exact ht')
    have h2 : t % k < k := Nat.mod_lt _ hk0
    have hx : xs[t / k]? = some xs[t / k] := List.getElem?_eq_getElem h1
    have hv : (enc xs[t / k])[t % k]? = some ((enc xs[t / k])[t % k]'(by rw [hk]; exact h2)) := List.getElem?_eq_getElem (by rw [hk]; exact h2)
    have h3 := flatMap_get hk hx hv
    have e : t / k * k + t % k = t := Nat.div_add_mod' t k
    rw [e] at h3
    have e1 : xs.toArray[t / k]! = xs[t / k] := by simp [h1]
    rw [e1, getElem!_pos (enc xs[t / k]) (t % k) (by rw [hk]; exact h2)]
    simp [h3]
theorem holdsK_own (hk : ∀ x, (enc x).length = k) {w : World} {base g n cap : Nat} {e : TypeId} {xs : List α} (hl : xs.length = n) (h : w.ownsRow base e k (.slice (some ⟨g, 0, none⟩) n cap) n (xs.flatMap enc)) : HoldsK enc k w g 0 xs.toArray := by
  rcases h.2 with ⟨h0, _⟩ | ⟨g', cap', cur, h0, _, hb, h3, _, h5, h6⟩
  · cases h0
  · injection h0 with h0 h0' h0''
    injection h0 with h0
    injection h0 with h0
    subst h0
    intro j hj
    rw [size_flatK] at hj
    have hj' : j < n * k := by rw [← hl]; simpa using hj
    have hc : j < cur.size := by rw [h5]; exact Nat.lt_of_lt_of_le hj' (Nat.mul_le_mul_right k h3)
    refine ⟨?_, ?_⟩
    · rw [flatK_eq hk]
      unfold World.cell?
      simp only [Nat.zero_add, hb]
      have h7 : (xs.flatMap enc)[j]? = cur.toList[j]? := by rw [← h6, List.getElem?_take, if_pos hj']
      have h8 : cur[j]? = some cur[j] := Array.getElem?_eq_getElem hc
      have h9 : (xs.flatMap enc)[j]? = some cur[j] := by rw [h7, Array.getElem?_toList, h8]
      simp [h9]
    · simp [World.frozen?, hb]
theorem own_sortWorld (hk : ∀ x, (enc x).length = k) {w : World} {base g n cap : Nat} {e : TypeId} {xs ys : List α} (_ : xs.length = n) (hy : ys.length = n) (h : w.ownsRow base e k (.slice (some ⟨g, 0, none⟩) n cap) n (xs.flatMap enc)) (m : Nat) (os : Array Obj) :
    (sortWorldK enc k w g 0 m ys.toArray os).ownsRow base e k (.slice (some ⟨g, 0, none⟩) n cap) n (ys.flatMap enc) ∧ Kept (fun x => x = g) w (sortWorldK enc k w g 0 m ys.toArray os) := by
  rcases h.2 with ⟨h0, _⟩ | ⟨g', cap', cur, h0, h1, hb, h3, h4, h5, h6⟩
  · cases h0
  · injection h0 with h0 h0' h0''
    injection h0 with h0
    injection h0 with h0
    subst h0
    subst h0''
    have hlt : g < w.heap.size := by
      rcases Nat.lt_or_ge g w.heap.size with h7 | h7
      · exact h7
      · rw [Array.getElem?_eq_none h7] at hb; cases hb
    have hfl : (ys.flatMap enc).length = n * k := by rw [flatMap_len hk, hy]
    have heap : ∀ i, i < w.heap.size → (sortWorldK enc k w g 0 m ys.toArray os).heap[i]? = if i = g then some (.cells (putCells id 0 (ys.flatMap enc).toArray cur) e (0, 0)) else w.heap[i]? := by
      intro i hi
      unfold sortWorldK putRowK putRow
      rw [heap_grow_old _ _ (by simpa [mapBlock, ahead] using hi), flatK_eq hk]
      simp only [mapBlock, Array.getElem?_modify]
      by_cases hig : g = i
      · subst hig
        simp [hb, onCells]
      · rw [if_neg hig, if_neg (fun e => hig e.symm)]
        rfl
    refine ⟨⟨hfl, .inr ⟨g, cap, putCells id 0 (ys.flatMap enc).toArray cur, rfl, h1, ?_, h3, h4, ?_, ?_⟩⟩, ⟨rfl, rfl, rfl, ?_, fun i hi hne => ?_⟩⟩
    · rw [heap g hlt, if_pos rfl]
    · simp [putCells, h5]
    · apply List.ext_getElem?
      intro i
      rw [List.getElem?_take]
      by_cases hi : i < n * k
      · have hi2 : i < cur.size := by rw [h5]; exact Nat.lt_of_lt_of_le hi (Nat.mul_le_mul_right k h3)
        rw [if_pos hi]
        simp only [putCells, Array.toList_mapIdx, List.getElem?_mapIdx, Array.getElem?_toList, Array.getElem?_eq_getElem hi2, Option.map_some, Nat.zero_le, true_and, List.size_toArray, hfl, Nat.zero_add, if_pos hi, Nat.sub_zero, id]
        rw [List.getElem?_eq_getElem (by rw [hfl]; exact hi)]
        simp [hfl, hi]
      · rw [if_neg hi, List.getElem?_eq_none (by rw [hfl]; omega)]
    · simp [sortWorldK, putRowK]
    · rw [heap i hi, if_neg hne]
end
end Go.Proofs.Ytnfgndapalkbcaa
