/-
  An argument that is a slice of instructions, opened.
-/
import Derived.Test.YtnfgndapalkbcaaOpenB
import Derived.Test.YtnfgndapalkbcaaInP
import Derived.DataElems
namespace Go.Proofs.Ytnfgndapalkbcaa
open Go.ChangeShapes Go.WideShapes Go.ChangeAt Go.RowKit

theorem inst_cells : Try.prog.cellsOf 55 = 21 := by kernel_rfl
theorem insts_of_rows {w : World} {a : Addr} (len : Nat) (h : ∀ i, i < len → ∃ x : In, x.ok ∧ ∀ (j : Nat) (u : Value), x.cells[j]? = some u → w.cell? (a.add (i * 21 + j)) = some u) :
    ∃ xs : List In, xs.length = len ∧ (∀ x ∈ xs, x.ok) ∧ ∀ (j : Nat) (u : Value), (insts xs)[j]? = some u → w.cell? (a.add j) = some u := by
  induction len with
  | zero => exact ⟨[], rfl, by simp, by simp [insts]⟩
  | succ n ih =>
    obtain ⟨xs, hl, hok, hc⟩ := ih (fun i hi => h i (by omega))
    obtain ⟨x, hx, hxc⟩ := h n (by omega)
    refine ⟨xs ++ [x], by simp [hl], fun y hy => ?_, fun j u hu => ?_⟩
    · rcases List.mem_append.1 hy with hy | hy
      · exact hok y hy
      · rw [List.mem_singleton.1 hy]; exact hx
    · rw [insts_append] at hu
      rcases Nat.lt_or_ge j (insts xs).length with hj | hj
      · rw [List.getElem?_append_left hj] at hu
        exact hc j u hu
      · rw [List.getElem?_append_right hj, insts_length, hl] at hu
        rw [insts_length, hl] at hj
        have e : insts [x] = x.cells := by simp [insts]
        rw [e] at hu
        have := hxc _ u hu
        rw [show n * 21 + (j - n * 21) = j by omega] at this
        exact this
set_option maxRecDepth 100000 in
theorem open_slice_insts {H : Type} {enc : TypeId × Value → H} {w : World} {r : Reach} {b0 : Nat} {t : TypeId} {v : Value} {d : DataW H} {p : List MemPlace} (ht : Try.prog.underlying t = some (.slice 55))
    (hv : Value.okWide Try.prog w r b0 t v) (h : DataW.Trod enc Try.prog w 0 (fun _ => true) true t v d p) :
    ∃ A n c xs, v = .slice A n c ∧ Reads w w.heap.size 21 A n (insts xs) ∧ n ≤ c ∧ c ≤ maxLen ∧ (∀ x ∈ xs, x.ok) ∧ (A = none → n = 0 ∧ c = 0) := by
  obtain ⟨A, n, c, rfl⟩ := okWide_slice ht hv
  obtain ⟨fuel, hf⟩ := h
  rcases DataW.trod_slice ht hf with ⟨hcs, _⟩ | ⟨a, len, cap, elems, rest, m, rfl, hcs, _, _, hl, hm, hlen, hel, _, _⟩
  · simp [Value.cells] at hcs
    obtain ⟨rfl, rfl, rfl⟩ := hcs
    exact ⟨none, 0, 0, [], rfl, Reads.none_, Nat.le_refl _, Nat.zero_le _, by simp, fun _ => ⟨rfl, rfl⟩⟩
  · simp [Value.cells] at hcs
    obtain ⟨rfl, rfl, rfl⟩ := hcs
    obtain ⟨xs, hxl, hok, hc⟩ := insts_of_rows (w := w) (a := a) n (fun i hi => by
      have h1 := hel i hi
      rw [inst_cells, List.getElem?_eq_getElem (by omega)] at h1
      obtain ⟨cs, h2, h3⟩ := Option.bind_eq_some_iff.1 h1
      obtain ⟨_, h4, h5⟩ := World.cells?_some h2
      obtain ⟨x, hx, hxo⟩ := in_of (shape_fits 4 _ _ _ _ _ inst_shape h3)
      refine ⟨x, hxo, fun j u hu => ?_⟩
      have hj : j < 21 := by
        have := (List.getElem?_eq_some_iff.1 hu).1
        rw [In.cells_length] at this
        exact this
      have := h5 j hj
      rw [Addr.add_add] at this
      rw [this, hx, hu])
    refine ⟨some a, n, c, xs, rfl, ⟨by rw [insts_length, hxl], fun hn => ⟨a, rfl, ?_, hc⟩⟩, hl, hm, hok, fun e => by cases e⟩
    obtain ⟨x, xs', rfl⟩ : ∃ x xs', xs = x :: xs' := by
      cases xs with
      | nil => simp at hxl; omega
      | cons x xs' => exact ⟨x, xs', rfl⟩
    have h0 := hc 0 _ (insts_at (x :: xs') 0 x rfl 0 _ rfl)
    have hb := lt_of_cell h0
    rw [block_of_add] at hb
    exact hb
end Go.Proofs.Ytnfgndapalkbcaa
