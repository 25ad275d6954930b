/-
  A class: its head is first, and it goes up: plain. What Same tells of a class.
-/
import Derived.Test.YtnfgndapalkbcaaUfH
namespace Go.Proofs.Ytnfgndapalkbcaa
open Go.RowKit
namespace Uf
theorem cls_sorted (u : List Nat) (h : Nat) : (cls u h).Pairwise (· < ·) := by
  unfold cls
  exact List.Pairwise.filter _ List.pairwise_lt_range'
theorem mem_cls {u : List Nat} {h x : Nat} : x ∈ cls u h ↔ (1 ≤ x ∧ x ≤ u.length) ∧ hd u x = h := by
  unfold cls
  rw [List.mem_filter, List.mem_range'_1, decide_eq_true_iff]
  constructor
  · rintro ⟨⟨a, b⟩, c⟩; exact ⟨⟨a, by omega⟩, c⟩
  · rintro ⟨⟨a, b⟩, c⟩; exact ⟨⟨a, by omega⟩, c⟩
/-- a class's first number is its head -/
theorem cls_first {u : List Nat} (g : Good u) {i : Nat} (h1 : 1 ≤ i) (h2 : i ≤ u.length) : ∃ r, cls u (hd u i) = hd u i :: r := by
  obtain ⟨a1, a2, a3⟩ := hd_spec g i h1 h2
  have hp : hd u i ∈ cls u (hd u i) := mem_cls.2 ⟨⟨a1, by omega⟩, hd_hd g h1 h2⟩
  have hs := cls_sorted u (hd u i)
  have hmin : ∀ x ∈ cls u (hd u i), hd u i ≤ x := by
    intro x hx
    obtain ⟨⟨b1, b2⟩, b3⟩ := mem_cls.1 hx
    have := (hd_spec g x b1 b2).2.1
    omega
  generalize hd u i = p at *
  rcases hc : cls u p with _ | ⟨y, r⟩
  · rw [hc] at hp; cases hp
  · rw [hc] at hp hs hmin
    have hy := hmin y (by simp)
    rcases List.mem_cons.1 hp with e | hm
    · exact ⟨r, by rw [e]⟩
    · have := (List.pairwise_cons.1 hs).1 p hm
      omega
theorem sorted_at {xs : List Nat} (h : xs.Pairwise (· < ·)) {k : Nat} (hk : k + 1 < xs.length) : xs.getD k 0 < xs.getD (k + 1) 0 := by
  rw [List.getD_eq_getElem?_getD, List.getD_eq_getElem?_getD, List.getElem?_eq_getElem hk, List.getElem?_eq_getElem (by omega)]
  exact List.pairwise_iff_getElem.1 h k (k + 1) (by omega) hk (by omega)
end Uf

theorem same_of {u xs : List Nat} {p : Nat} (h : ∀ x ∈ xs, (1 ≤ x ∧ x ≤ u.length) ∧ Uf.hd u x = p) : sameI u (xs.map Int.ofNat) = true := by
  rcases xs with _ | ⟨y, r⟩
  · rfl
  have h0 := h y (by simp)
  unfold sameI
  rw [List.all_eq_true]
  intro z hz
  rw [List.mem_map] at hz
  obtain ⟨x, hx, rfl⟩ := hz
  obtain ⟨h1, h2⟩ := h x hx
  have e1 : headI u (Int.ofNat x) = (p : Int) := by rw [← h2]; exact headI_nat h1
  have e0 : headI u ((List.map Int.ofNat (y :: r)).headD 0) = (p : Int) := by rw [← h0.2]; exact headI_nat h0.1
  rw [e0, e1]
  have : inU u (Int.ofNat x) = true := by simp [inU]; omega
  rw [this]
  simp
end Go.Proofs.Ytnfgndapalkbcaa
