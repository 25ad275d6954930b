/-
  Arguments opened, over any program: a slice of slices of ints.
-/
import Derived.Test.YtioehmngkoffaaaOpen
import Derived.Deep.Matrix
namespace Go.Proofs.Ytioehmngkoffaaa
open Go.ChangeShapes Go.WideShapes Go.ChangeAt Go.RowKit Go.Deep

theorem exists_list {α : Type} {n : Nat} {Q : Nat → α → Prop} (h : ∀ i, i < n → ∃ y, Q i y) : ∃ ys : List α, ys.length = n ∧ ∀ i y, ys[i]? = some y → Q i y := by
  induction n with
  | zero => exact ⟨[], rfl, by simp⟩
  | succ n ih =>
    obtain ⟨ys, hl, hq⟩ := ih fun i hi => h i (by omega)
    obtain ⟨y, hy⟩ := h n (by omega)
    refine ⟨ys ++ [y], by simp [hl], fun i z hz => ?_⟩
    rcases Nat.lt_or_ge i n with hi | hi
    · rw [List.getElem?_append_left (by omega)] at hz
      exact hq i z hz
    · rw [List.getElem?_append_right (by omega)] at hz
      have : i - ys.length = 0 := by
        rcases Nat.eq_zero_or_pos (i - ys.length) with h0 | h0
        · exact h0
        · rw [List.getElem?_eq_none (by simp; omega)] at hz; cases hz
      rw [this] at hz
      simp at hz
      subst hz
      obtain rfl : i = n := by omega
      exact hy

/-- A slice of ints, as a value and what it reads as. -/
structure IRow where
  A : Option Addr
  n : Nat
  c : Nat
  xs : List Int
def IRow.val (r : IRow) : Value := .slice r.A r.n r.c
def IRow.ok (w : World) (B : Nat) (r : IRow) : Prop :=
  Reads w B 1 r.A r.n (ints r.xs) ∧ r.n ≤ r.c ∧ r.c ≤ maxLen ∧ ∀ x ∈ r.xs, -9223372036854775808 ≤ x ∧ x ≤ 9223372036854775807
theorem IRow.ok.below {w w' : World} {B : Nat} {r : IRow} (h : r.ok w B) (hb : Below B w w') : r.ok w' B := ⟨h.1.below hb, h.2⟩

section
variable {H : Type} {enc : TypeId × Value → H} {P : Program} {w : World}

theorem row_of_trod {t e : TypeId} {fuel : Nat} {cs : List Value} {x : DataW H × List MemPlace} (ht : P.underlying t = some (.slice e)) (he : P.underlying e = some (.int .i64)) (hc : P.cellsOf e = 1)
    (h : DataW.trod enc P w 0 (fun _ => true) true fuel t cs = some x) : ∃ r : IRow, cs = [r.val] ∧ r.ok w w.heap.size := by
  rcases open_ints ht he hc h with ⟨hcs, _⟩ | ⟨a, l, cp, zs, hcs, _, hl, hm, hz, _, hcell, hwz⟩
  · exact ⟨⟨none, 0, 0, []⟩, hcs, Reads.none_, Nat.le_refl _, Nat.zero_le _, by simp⟩
  · have hz' : zs.length = cp := by simpa using hz
    refine ⟨⟨some a, l, cp, zs.take l⟩, hcs, ⟨by simp [ints, hz', Nat.min_eq_left hl], fun hn => ?_⟩, hl, hm, ?_⟩
    · have h0 := hcell 0 (by have : 0 < l := hn; omega)
      have hb := lt_of_cell h0
      rw [block_of_add] at hb
      refine ⟨a, rfl, hb, fun j u hu => ?_⟩
      simp only [ints, List.getElem?_map, Option.map_eq_some_iff] at hu
      obtain ⟨z, hz1, rfl⟩ := hu
      rw [List.getElem?_take] at hz1
      split at hz1
      · rename_i hj
        rw [hcell j (by omega), List.getD_eq_getElem?_getD, hz1]
        rfl
      · cases hz1
    · intro z hz1
      exact bounds_of_wf (hwz z (List.mem_of_mem_take hz1))

theorem open_slice_rows {r : Reach} {b0 : Nat} {t e q : TypeId} {v : Value} {d : DataW H} {p : List MemPlace} (ht : P.underlying t = some (.slice e)) (he : P.underlying e = some (.slice q)) (hq : P.underlying q = some (.int .i64))
    (ce : P.cellsOf e = 1) (cq : P.cellsOf q = 1) (hv : Value.okWide P w r b0 t v) (h : DataW.Trod enc P w 0 (fun _ => true) true t v d p) :
    ∃ A n c, ∃ rows : List IRow, v = .slice A n c ∧ Reads w w.heap.size 1 A n (rows.map IRow.val) ∧ n ≤ c ∧ c ≤ maxLen ∧ ∀ r ∈ rows, r.ok w w.heap.size := by
  obtain ⟨A, n, c, rfl⟩ := okWide_slice ht hv
  obtain ⟨fuel, hf⟩ := h
  rcases open_slice1 ht ce hf with ⟨hcs, _⟩ | ⟨a, len, cap, m, k, V, D, Pl, hcs, _, hl, hm, hmm, _, hx⟩
  · simp [Value.cells] at hcs
    obtain ⟨rfl, rfl, rfl⟩ := hcs
    exact ⟨none, 0, 0, [], rfl, Reads.none_, Nat.le_refl _, Nat.zero_le _, by simp⟩
  · simp [Value.cells] at hcs
    obtain ⟨rfl, rfl, rfl⟩ := hcs
    simp only [if_true] at hmm
    subst hmm
    obtain ⟨rows, hlen, hrow⟩ := exists_list (n := n) (Q := fun i (r : IRow) => w.cell? (a.add i) = some r.val ∧ r.ok w w.heap.size) (fun i hi => by
      obtain ⟨hc1, hc2⟩ := hx i (by omega)
      obtain ⟨r, e1, e2⟩ := row_of_trod he hq cq hc2
      simp at e1
      exact ⟨r, by rw [hc1, e1], e2⟩)
    refine ⟨some a, n, _, rows, rfl, ⟨by simp [hlen], fun hn => ?_⟩, hl, hm, fun r hr => ?_⟩
    · have h0 := hx 0 (by omega)
      have hb := lt_of_cell h0.1
      rw [block_of_add] at hb
      refine ⟨a, rfl, hb, fun j u hu => ?_⟩
      simp only [List.getElem?_map, Option.map_eq_some_iff] at hu
      obtain ⟨z, hz1, rfl⟩ := hu
      exact (hrow j z hz1).1
    · obtain ⟨i, hi⟩ := List.getElem?_of_mem hr
      exact (hrow i r hi).2
end

theorem Reads.row {w : World} {B n k : Nat} {A : Option Addr} {rows : List IRow} (h : Reads w B 1 A n (rows.map IRow.val)) (hk : k < n) :
    ∃ ad r, A = some ad ∧ ad.block < B ∧ rows[k]? = some r ∧ w.cell? (ad.add k) = some (.slice r.A r.n r.c) := by
  obtain ⟨ad, u, e, hb, hu, hc⟩ := h.at_ hk
  simp only [List.getElem?_map, Option.map_eq_some_iff] at hu
  obtain ⟨r, hr, rfl⟩ := hu
  exact ⟨ad, r, e, hb, hr, hc⟩
theorem Reads.row_len {w : World} {B n : Nat} {A : Option Addr} {rows : List IRow} (h : Reads w B 1 A n (rows.map IRow.val)) : rows.length = n := by
  have := h.1; simpa using this
end Go.Proofs.Ytioehmngkoffaaa
