/-
  complineref12's classes, plain: the list of heads.
-/
import Derived.Test.YtedfbdeklepekaaGreatUfHK
namespace Go.Proofs.YtedfbdeklepekaaGreat
open Go Go.RowKit
/-- the head of each number -/
def hds (u : List Nat) : List Nat := (List.range' 1 u.length).map (Uf.hd u)
theorem hds_length (u : List Nat) : (hds u).length = u.length := by simp [hds]
theorem hds_get {u : List Nat} {k : Nat} (h : k < u.length) : (hds u)[k]? = some (Uf.hd u (k + 1)) := by
  unfold hds
  rw [List.getElem?_map, List.getElem?_range' h, Nat.one_mul, Nat.add_comm]
  rfl
theorem hds_congr {u v : List Nat} (hl : u.length = v.length) (h : ∀ i, 1 ≤ i → i ≤ u.length → Uf.hd u i = Uf.hd v i) : hds u = hds v := by
  unfold hds
  rw [← hl]
  refine List.map_congr_left fun i hi => ?_
  have := List.mem_range'_1.1 hi
  exact h i (by omega) (by omega)
theorem hds_grow {u : List Nat} (g : Uf.Good u) : hds (u ++ [u.length + 1]) = hds u ++ [u.length + 1] := by
  unfold hds
  rw [List.length_append, List.length_singleton, List.range'_concat, List.map_append]
  congr 1
  · refine List.map_congr_left fun i hi => ?_
    have := List.mem_range'_1.1 hi
    exact Uf.hd_grow_old g i (by omega) (by omega)
  · rw [Nat.one_mul, Nat.add_comm 1, List.map_singleton, Uf.hd_grow_new g]
theorem hds_growF {u : List Nat} (g : Uf.Good u) (k : Nat) : hds (growF u (k + 1)) = hds (growF u k) ++ [u.length + k + 1] := by
  have h := hds_grow (growF_good g k)
  rw [growF_length] at h
  show hds (growF u k ++ [(growF u k).length + 1]) = _
  rw [growF_length]
  exact h
theorem hds_step {u : List Nat} (g : Uf.Good u) {x y : Nat} (hx : 1 ≤ x ∧ x ≤ u.length) (hy : 1 ≤ y ∧ y ≤ u.length) {a b : Nat} (hab : a < b) (h : (Uf.hd u x = a ∧ Uf.hd u y = b) ∨ (Uf.hd u x = b ∧ Uf.hd u y = a)) : hds (Uf.step u x y) = (hds u).map fun h => if h = b then a else h := by
  unfold hds
  rw [Uf.step_length, List.map_map]
  refine List.map_congr_left fun i hi => ?_
  have := List.mem_range'_1.1 hi
  rw [Uf.hd_stepped g hx hy (by omega) (by omega)]
  show _ = if Uf.hd u i = b then a else Uf.hd u i
  rcases h with ⟨h1, h2⟩ | ⟨h1, h2⟩ <;> rw [h1, h2] <;> (split <;> split <;> omega)
/-- numbers joined: how many fewer classes, the error, the classes -/
def joinN (u : List Nat) : List Nat → Nat
  | [] => 0
  | x :: r => joinC u x (x :: r)
def joinV (u : List Nat) : List Nat → List Nat
  | [] => u
  | x :: r => joinU u x (x :: r)
theorem step_self (u : List Nat) (x : Nat) : Uf.step u x x = u := by unfold Uf.step; rw [if_pos rfl]
theorem more_self (u : List Nat) (x : Nat) : Uf.more u x x = 0 := by unfold Uf.more; rw [if_pos rfl]
theorem joinV_cons (u : List Nat) (x : Nat) (r : List Nat) : joinV u (x :: r) = joinU u x r := by
  show joinU u x (x :: r) = _
  unfold joinU
  rw [List.foldl_cons, step_self]
theorem joinN_cons (u : List Nat) (x : Nat) (r : List Nat) : joinN u (x :: r) = joinC u x r := by
  show Uf.more u x x + joinC (Uf.step u x x) x r = _
  rw [more_self, step_self, Nat.zero_add]
/-- a class, whatever the number -/
def clsU (u : List Nat) (i : Int) : List Nat := if inU u i = true then Uf.cls u (Uf.hd u i.toNat) else []
end Go.Proofs.YtedfbdeklepekaaGreat
