/-
  Pairs joined from the front and from the back end the same: plain. What is told of a class by its place among the classes.
-/
import Derived.Test.YtnfgndapalkbcaaUfJ
namespace Go.Proofs.Ytnfgndapalkbcaa
namespace Uf

/-- the first k pairs of a list -/
def prs (xs : List Nat) (k : Nat) : List (Nat × Nat) := (List.range k).map fun t => (xs.getD (2 * t) 0, xs.getD (2 * t + 1) 0)
/-- the last d pairs of the first h, from the back, turned -/
def qrs (xs : List Nat) (h d : Nat) : List (Nat × Nat) := (List.range d).map fun s => (xs.getD (2 * (h - 1 - s) + 1) 0, xs.getD (2 * (h - 1 - s)) 0)
theorem prs_succ (xs : List Nat) (k : Nat) : prs xs (k + 1) = prs xs k ++ [(xs.getD (2 * k) 0, xs.getD (2 * k + 1) 0)] := by simp [prs, List.range_succ]
theorem qrs_succ (xs : List Nat) (h d : Nat) : qrs xs h (d + 1) = qrs xs h d ++ [(xs.getD (2 * (h - 1 - d) + 1) 0, xs.getD (2 * (h - 1 - d)) 0)] := by simp [qrs, List.range_succ]
theorem joins_snoc (u : List Nat) (ps : List (Nat × Nat)) (p : Nat × Nat) : joins u (ps ++ [p]) = step (joins u ps) p.1 p.2 := by simp [joins, List.foldl_append]
theorem getD_in {n : Nat} {xs : List Nat} (h : ∀ x ∈ xs, 1 ≤ x ∧ x ≤ n) {k : Nat} (hk : k < xs.length) : 1 ≤ xs.getD k 0 ∧ xs.getD k 0 ≤ n := by
  rw [List.getD_eq_getElem?_getD, List.getElem?_eq_getElem hk]
  exact h _ (List.getElem_mem _)
theorem prs_in {n : Nat} {xs : List Nat} (h : ∀ x ∈ xs, 1 ≤ x ∧ x ≤ n) {k : Nat} (hk : 2 * k ≤ xs.length) : InR n (prs xs k) := by
  intro p hp
  unfold prs at hp
  rw [List.mem_map] at hp
  obtain ⟨t, ht, rfl⟩ := hp
  rw [List.mem_range] at ht
  exact ⟨getD_in h (by omega), getD_in h (by omega)⟩
theorem qrs_in {n : Nat} {xs : List Nat} (h : ∀ x ∈ xs, 1 ≤ x ∧ x ≤ n) {m d : Nat} (hm : 2 * m ≤ xs.length) (hd : d ≤ m) : InR n (qrs xs m d) := by
  intro p hp
  unfold qrs at hp
  rw [List.mem_map] at hp
  obtain ⟨t, ht, rfl⟩ := hp
  rw [List.mem_range] at ht
  exact ⟨getD_in h (by omega), getD_in h (by omega)⟩
theorem prs_qrs {xs : List Nat} {m x y : Nat} : (x, y) ∈ prs xs m ↔ (y, x) ∈ qrs xs m m := by
  unfold prs qrs
  rw [List.mem_map, List.mem_map]
  constructor
  · rintro ⟨t, ht, e⟩
    rw [List.mem_range] at ht
    injection e with e1 e2
    refine ⟨m - 1 - t, List.mem_range.2 (by omega), ?_⟩
    have : m - 1 - (m - 1 - t) = t := by omega
    rw [this, e1, e2]
  · rintro ⟨s, hs, e⟩
    rw [List.mem_range] at hs
    injection e with e1 e2
    exact ⟨m - 1 - s, List.mem_range.2 (by omega), by rw [e1, e2]⟩
theorem classes_back {n : Nat} {xs : List Nat} (h : ∀ x ∈ xs, 1 ≤ x ∧ x ≤ n) {m : Nat} (hm : 2 * m ≤ xs.length) : classes (joins (fresh n) (prs xs m)) = classes (joins (fresh n) (qrs xs m m)) := by
  have g1 : Good (joins (fresh n) (prs xs m)) := good_joins (fresh_good n) (by rw [fresh_length]; exact prs_in h hm)
  have g2 : Good (joins (fresh n) (qrs xs m m)) := good_joins (fresh_good n) (by rw [fresh_length]; exact qrs_in h hm (Nat.le_refl _))
  have hl : (joins (fresh n) (prs xs m)).length = (joins (fresh n) (qrs xs m m)).length := by rw [joins_length, joins_length]
  refine classes_congr hl fun i h1 h2 => hd_unique g1 g2 hl (fun i j => ?_) h1 h2
  rw [E_joins (fresh_good n) (by rw [fresh_length]; exact prs_in h hm), E_joins (fresh_good n) (by rw [fresh_length]; exact qrs_in h hm (Nat.le_refl _))]
  constructor
  · exact Con.same fun x y hxy => .inr (prs_qrs.1 hxy)
  · exact Con.same fun x y hxy => .inr (prs_qrs.2 hxy)

theorem heads_fresh (n : Nat) : (heads (fresh n)).length = n := by
  unfold heads
  rw [List.filter_eq_self.2 ?_, fresh_length, List.length_range']
  intro i hi
  rw [fresh_length, List.mem_range'_1] at hi
  rw [fresh_hd n i (by omega) (by omega)]
  simp

theorem heads_sorted (u : List Nat) : (heads u).Pairwise (· < ·) := by
  unfold heads
  exact List.Pairwise.filter _ List.pairwise_lt_range'
theorem hd_of_heads {u : List Nat} {h : Nat} (hm : h ∈ heads u) : hd u h = h := by
  unfold heads at hm
  simpa using (List.mem_filter.1 hm).2
/-- the k-th class: its numbers, and its first one -/
theorem class_at {u : List Nat} (g : Good u) {k : Nat} (hk : k < (classes u).length) :
    ∃ p r, (classes u).getD k [] = p :: r ∧ (1 ≤ p ∧ p ≤ u.length) ∧ hd u p = p ∧ (heads u).getD k 0 = p ∧ ∀ x ∈ p :: r, (1 ≤ x ∧ x ≤ u.length) ∧ hd u x = p := by
  have hk' : k < (heads u).length := by simpa [classes] using hk
  have e : (classes u).getD k [] = cls u (heads u)[k] := by
    rw [List.getD_eq_getElem?_getD, List.getElem?_eq_getElem hk]
    simp [classes]
  have hm : (heads u)[k] ∈ heads u := List.getElem_mem _
  have e2 : (heads u).getD k 0 = (heads u)[k] := by rw [List.getD_eq_getElem?_getD, List.getElem?_eq_getElem hk']; rfl
  rw [e, e2]
  generalize (heads u)[k] = p at *
  have hb : 1 ≤ p ∧ p ≤ u.length := by
    unfold heads at hm
    have := List.mem_range'_1.1 (List.mem_filter.1 hm).1
    omega
  have hp := hd_of_heads hm
  obtain ⟨r, hr⟩ := cls_first g hb.1 hb.2
  rw [hp] at hr
  refine ⟨p, r, hr, hb, hp, rfl, ?_⟩
  intro x hx
  rw [← hr] at hx
  exact mem_cls.1 hx
theorem heads_ne {u : List Nat} {k : Nat} (hk : k + 1 < (heads u).length) : (heads u).getD k 0 < (heads u).getD (k + 1) 0 := sorted_at (heads_sorted u) hk
theorem classes_length (u : List Nat) : (classes u).length = (heads u).length := by simp [classes]
/-- the lengths of the first k classes, added up -/
def cnt (u : List Nat) (k : Nat) : Nat := (((classes u).take k).map List.length).sum
theorem cnt_succ {u : List Nat} {k : Nat} (hk : k < (classes u).length) : cnt u (k + 1) = cnt u k + ((classes u).getD k []).length := by
  unfold cnt
  rw [List.take_succ_eq_append_getElem hk, List.map_append, List.sum_append, List.getD_eq_getElem?_getD, List.getElem?_eq_getElem hk]
  simp
theorem cnt_all {u : List Nat} (g : Good u) : cnt u (classes u).length = u.length := by
  unfold cnt
  rw [List.take_length]
  exact sum_lengths g
theorem cnt_le {u : List Nat} (g : Good u) : ∀ k, k ≤ (classes u).length → cnt u k ≤ u.length := by
  intro k hk
  obtain ⟨d, hd⟩ : ∃ d, k + d = (classes u).length := ⟨_, Nat.add_sub_cancel' hk⟩
  induction d generalizing k with
  | zero => have := cnt_all g; simp at hd; rw [hd, this]; exact Nat.le_refl _
  | succ d ih =>
    have h1 := cnt_succ (u := u) (k := k) (by omega)
    have h2 := ih (k + 1) (by omega) (by omega)
    omega
end Uf

open Go.RowKit
/-- one pair joined, as the call has it -/
theorem joinU_pair {u : List Nat} {x y : Nat} : joinU u x [x, y] = Uf.step u x y := by
  have : Uf.step u x x = u := by unfold Uf.step; rw [if_pos rfl]
  simp [joinU, this]
theorem joinC_pair {u : List Nat} {x y : Nat} : joinC u x [x, y] = Uf.more u x y := by
  have e1 : Uf.step u x x = u := by unfold Uf.step; rw [if_pos rfl]
  have e2 : Uf.more u x x = 0 := by unfold Uf.more; rw [if_pos rfl]
  simp [joinC, e1, e2]
theorem sameI_apart {u : List Nat} {x h p : Nat} (hx : 1 ≤ x ∧ x ≤ u.length) (hp : Uf.hd u x = p) (hh : 1 ≤ h ∧ h ≤ u.length) (hhh : Uf.hd u h = h) (hne : h ≠ p) : sameI u [(x : Int), (h : Int)] = false := by
  unfold sameI
  have e1 := headI_nat hx
  have e2 := headI_nat hh
  rw [hp] at e1
  rw [hhh] at e2
  simp [e1, e2]
  intro _ _
  omega
end Go.Proofs.Ytnfgndapalkbcaa
