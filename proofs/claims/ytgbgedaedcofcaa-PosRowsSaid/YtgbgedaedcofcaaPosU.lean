/-
  pos: plain laws: what all positions come to.
-/
import Derived.Test.YtgbgedaedcofcaaPosR
namespace Go.Proofs.Ytgbgedaedcofcaa
open Go Go.RowKit

def sumAll (l : List (Ent Key B3)) : Int := (l.map fun e => sum3 e.val).sum
theorem setB_sum (b : B3) (sub v : Int) : sum3 (setB b sub v) = sum3 b + v - partB b sub := by
  unfold sum3 setB partB
  split
  · dsimp only; omega
  · split
    · dsimp only; omega
    · dsimp only; omega
theorem ins_sum (k : Key) (v : B3) (n : Nat) : ∀ (l : List (Ent Key B3)), sumAll (ins k v n l) = sumAll l + sum3 v - sum3 (getM l k)
  | [] => by
    simp only [ins, sumAll, List.map_cons, List.map_nil, List.sum_cons, List.sum_nil, getM, look, Option.getD_none, sum3]
    omega
  | e :: l => by
    by_cases h : k = e.key
    · simp only [ins, if_pos h, sumAll, List.map_cons, List.sum_cons, getM, look, Option.getD_some]
      omega
    · have ih := ins_sum k v n l
      simp only [ins, if_neg h, sumAll, List.map_cons, List.sum_cons, getM, look] at ih ⊢
      omega
theorem del_sum (k : Key) : ∀ (l : List (Ent Key B3)), sumAll (del k l) = sumAll l - sum3 (getM l k)
  | [] => by
    simp only [del, sumAll, List.map_nil, List.sum_nil, getM, look, Option.getD_none, sum3]
    omega
  | e :: l => by
    by_cases h : k = e.key
    · simp only [del, if_pos h, sumAll, List.map_cons, List.sum_cons, getM, look, Option.getD_some]
      omega
    · have ih := del_sum k l
      simp only [del, if_neg h, sumAll, List.map_cons, List.sum_cons, getM, look] at ih ⊢
      omega
theorem addL_sum (l : List (Ent Key B3)) (clock : Nat) (k : Key) (sub by' : Int) : sumAll (addL clock l k sub by') = if addC (getM l k) sub by' = 0 then sumAll l + by' else sumAll l := by
  unfold addL
  split
  · have hs := setB_sum (getM l k) sub (partB (getM l k) sub + by')
    split
    · rename_i hz
      rw [del_sum]
      rw [hz] at hs
      have h0 : sum3 (0, 0, 0) = 0 := rfl
      omega
    · rw [ins_sum]
      omega
  · rfl
theorem allOf_sum (l : List (Ent Key B3)) : ∀ (ks : List Key), sumI (allOf l ks) = (ks.map fun k => sum3 (getM l k)).sum
  | [] => rfl
  | k :: ks => by
    have ih := allOf_sum l ks
    show sumI (three (getM l k) ++ allOf l ks) = _
    rw [sumI_append, ih, List.map_cons, List.sum_cons]
    congr 1
    simp [sumI, three, sum3]
theorem keys_sum {l : List (Ent Key B3)} {clock : Nat} (hf : Fine l clock) : ((l.map (·.key)).map fun k => sum3 (getM l k)).sum = sumAll l := by
  unfold sumAll
  rw [List.map_map]
  congr 1
  refine List.map_congr_left fun e he => ?_
  show sum3 ((look e.key l).getD _) = _
  rw [look_self hf.keys he]
  rfl
theorem filter_sum_le {α : Type} (f : α → Int) (p : α → Bool) (h : ∀ x, 0 ≤ f x) : ∀ (xs : List α), 0 ≤ ((xs.filter p).map f).sum ∧ ((xs.filter p).map f).sum ≤ (xs.map f).sum
  | [] => by simp
  | x :: xs => by
    have ih := filter_sum_le f p h xs
    have hx := h x
    rw [List.filter_cons]
    split
    · simp only [List.map_cons, List.sum_cons]
      omega
    · simp only [List.map_cons, List.sum_cons]
      omega
theorem sum3_ok {b : B3} (h : okB b) : 0 ≤ sum3 b := by
  obtain ⟨a, b, c⟩ := h
  unfold sum3
  omega
end Go.Proofs.Ytgbgedaedcofcaa
