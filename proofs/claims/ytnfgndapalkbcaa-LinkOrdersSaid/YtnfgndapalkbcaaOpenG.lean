/-
  An argument that is a slice of structs of ints, bools, texts and slices, opened: the rows of cells, each of its shape. Over any program.
-/
import Derived.Test.YtnfgndapalkbcaaShape
import Derived.Test.YtnfgndapalkbcaaOpen
import Derived.DataElems
namespace Go.Proofs.Ytnfgndapalkbcaa
open Go.ChangeShapes Go.WideShapes Go.ChangeAt Go.RowKit

theorem rows_of {w : World} {a : Addr} {c M : Nat} {ks : List Leaf} (hc0 : ks.length = c) (len : Nat) (h : ∀ i, i < len → ∃ x : List Value, AllFitM M ks x ∧ ∀ (j : Nat) (u : Value), x[j]? = some u → w.cell? (a.add (i * c + j)) = some u) :
    ∃ xss : List (List Value), xss.length = len ∧ (∀ x ∈ xss, AllFitM M ks x) ∧ xss.flatten.length = len * c ∧ ∀ (j : Nat) (u : Value), xss.flatten[j]? = some u → w.cell? (a.add j) = some u := by
  induction len with
  | zero => exact ⟨[], rfl, by simp, by simp, by simp⟩
  | succ n ih =>
    obtain ⟨xs, hl, hok, hfl, hc⟩ := ih (fun i hi => h i (by omega))
    obtain ⟨x, hx, hxc⟩ := h n (by omega)
    have hxl : x.length = c := by rw [allFit_length hx, hc0]
    refine ⟨xs ++ [x], by simp [hl], fun y hy => ?_, ?_, fun j u hu => ?_⟩
    · rcases List.mem_append.1 hy with hy | hy
      · exact hok y hy
      · rw [List.mem_singleton.1 hy]; exact hx
    · rw [List.flatten_append, List.length_append, hfl]
      simp [hxl, Nat.succ_mul]
    · rw [List.flatten_append] at hu
      rcases Nat.lt_or_ge j xs.flatten.length with hj | hj
      · rw [List.getElem?_append_left hj] at hu
        exact hc j u hu
      · rw [List.getElem?_append_right hj, hfl] at hu
        rw [hfl] at hj
        have e : [x].flatten = x := by simp
        rw [e] at hu
        have := hxc _ u hu
        rw [show n * c + (j - n * c) = j by omega] at this
        exact this
theorem weights_all_mem {H : Type} {P : Program} {e : TypeId} : ∀ {ds : List (DataW H)} {i : Nat} {d : DataW H}, ds[i]? = some d → ∀ m ∈ d.weights P e, m ∈ DataW.weightsAll P e ds
  | [], _, _, h, _, _ => by simp at h
  | d0 :: ds, 0, d, h, m, hm => by
    simp only [List.getElem?_cons_zero, Option.some.injEq] at h
    subst h
    simp only [DataW.weightsAll, List.mem_append]
    exact .inl hm
  | d0 :: ds, i + 1, d, h, m, hm => by
    simp only [List.getElem?_cons_succ] at h
    simp only [DataW.weightsAll, List.mem_append]
    exact .inr (weights_all_mem h m hm)
theorem open_rows {H : Type} {enc : TypeId × Value → H} {P : Program} {w : World} {r : Reach} {b0 n0 M : Nat} {t e : TypeId} {ks : List Leaf} {v : Value} {d : DataW H} {p : List MemPlace} (hs : shapeOf P n0 e = some ks) (hk : P.cellsOf e = ks.length) (hpos : 0 < ks.length) (ht : P.underlying t = some (.slice e))
    (hv : Value.okWide P w r b0 t v) (h : DataW.Trod enc P w 0 (fun _ => true) true t v d p) (hw : ∀ m ∈ d.weights P t, m ≤ M) :
    ∃ A n c xss, v = .slice A n c ∧ Reads w w.heap.size ks.length A n (List.flatten xss) ∧ n ≤ c ∧ c ≤ maxLen ∧ xss.length = n ∧ (∀ x ∈ xss, AllFitM M ks x) ∧ (A = none → n = 0 ∧ c = 0) := by
  obtain ⟨A, n, c, rfl⟩ := okWide_slice ht hv
  obtain ⟨fuel, hf⟩ := h
  rcases DataW.trod_slice ht hf with ⟨hcs, _⟩ | ⟨a, len, cap, elems, rest, m, rfl, hcs, hx, _, hl, hm, hlen, hel, _, _⟩
  · simp [Value.cells] at hcs
    obtain ⟨rfl, rfl, rfl⟩ := hcs
    exact ⟨none, 0, 0, [], rfl, Reads.none_, Nat.le_refl _, Nat.zero_le _, rfl, by simp, fun _ => ⟨rfl, rfl⟩⟩
  · simp [Value.cells] at hcs
    obtain ⟨rfl, rfl, rfl⟩ := hcs
    have hd : d = .slice (elems.map (·.1)) (rest.map (·.1)) := (Prod.mk.inj hx).1
    obtain ⟨xss, hxl, hok, hfl, hc⟩ := rows_of (w := w) (a := a) (M := M) (ks := ks) rfl n (fun i hi => by
      have h1 := hel i hi
      rw [hk, List.getElem?_eq_getElem (by omega)] at h1
      obtain ⟨cs, h2, h3⟩ := Option.bind_eq_some_iff.1 h1
      obtain ⟨hcl, h4, h5⟩ := World.cells?_some h2
      have hfit := shape_sized n0 _ _ _ _ _ hs h3 (fun q hq => hw q (by
        rw [hd]
        simp only [DataW.weights, ht]
        refine List.mem_cons_of_mem _ (List.mem_append_left _ (weights_all_mem (i := i) (d := (elems[i]'(by omega)).1) (by rw [List.getElem?_map, List.getElem?_eq_getElem (by omega)]; rfl) q hq))))
      refine ⟨cs, hfit, fun j u hu => ?_⟩
      have hj : j < ks.length := by
        have := (List.getElem?_eq_some_iff.1 hu).1
        rw [allFit_length hfit] at this
        exact this
      have := h5 j hj
      rw [Addr.add_add] at this
      rw [this, hu])
    refine ⟨some a, n, c, xss, rfl, ⟨hfl, fun hn => ⟨a, rfl, ?_, hc⟩⟩, hl, hm, hxl, hok, fun e => by cases e⟩
    have h0 := hc 0 _ (List.getElem?_eq_getElem (by rw [hfl]; exact Nat.mul_pos hn hpos))
    have hb := lt_of_cell h0
    rw [block_of_add] at hb
    exact hb
end Go.Proofs.Ytnfgndapalkbcaa
