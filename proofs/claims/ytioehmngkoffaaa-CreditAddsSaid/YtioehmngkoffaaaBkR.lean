/-
  Rows of one's own, any number of them, each apart from the others. Over any program.
-/
import Derived.Test.YtioehmngkoffaaaAppK
namespace Go.Proofs.Ytioehmngkoffaaa
open Go Go.RowKit
structure BRow where
  v : Value
  n : Nat
  xs : List Value
structure BkR (B : Nat) (et : TypeId) (sz : Nat) (rows : List BRow) (ρ : Nm) (rs : List Reg) (w : World) : Prop where
  own : ∀ r ∈ rows, Own ρ rs w B et sz r.v r.n r.xs
  apart : rows.Pairwise fun a b => ∀ g, a.v.ownBlock = some g → b.v.ownBlock ≠ some g
section
variable {B : Nat} {et : TypeId} {sz : Nat} {rows : List BRow} {ρ ρ' : Nm} {rs rs' : List Reg} {w w' : World}
theorem BkR.map (h : BkR B et sz rows ρ rs w) (hf : ∀ r ∈ rows, Own ρ rs w B et sz r.v r.n r.xs → Own ρ' rs' w' B et sz r.v r.n r.xs) : BkR B et sz rows ρ' rs' w' := ⟨fun r hr => hf r hr (h.own r hr), h.apart⟩
theorem BkR.moved (h : BkR B et sz rows ρ rs w) (hm : Moved ρ rs w ρ' rs' w') : BkR B et sz rows ρ' rs' w' := h.map fun _ _ h => h.moved hm
theorem BkR.below (h : BkR B et sz rows ρ rs w) (hb : Below w.heap.size w w') : BkR B et sz rows ρ rs w' := h.map fun _ _ h => h.below hb
theorem BkR.drew (h : BkR B et sz rows ρ rs w) : BkR B et sz rows ρ rs w.drew := h.map fun _ _ h => h.drew
theorem BkR.castR (h : BkR B et sz rows ρ rs w) (e : rs = rs') : BkR B et sz rows ρ rs' w := e ▸ h
theorem BkR.cut {N : Nat} (h : BkR B et sz rows ρ' rs' w) (hag : Ag N ρ ρ' rs') (hN : rs.length = N) (e0 : rs'.take N = rs) : BkR B et sz rows ρ rs w := h.map fun _ _ h => h.cut hag hN e0
theorem BkR.grown (h : BkR B et sz rows ρ rs w) {o : Option Nat} (hg : w.grownBy w' o) (hne : ∀ r ∈ rows, ∀ g, r.v.ownBlock = some g → o ≠ some g) : BkR B et sz rows ρ rs w' := h.map fun r hr h => h.grown hg (hne r hr)
theorem BkR.kept (h : BkR B et sz rows ρ rs w) {S : Nat → Prop} (hk : Kept S w w') (hn : ∀ r ∈ rows, ∀ g, r.v.ownBlock = some g → ¬ S g) : BkR B et sz rows ρ rs w' := h.map fun r hr h => ⟨own_kept h.own hk (hn r hr), h.far⟩
theorem BkR.nil : BkR B et sz [] ρ rs w := ⟨fun _ h => absurd h List.not_mem_nil, List.Pairwise.nil⟩
theorem BkR.snoc {v : Value} {n : Nat} {xs : List Value} (h : BkR B et sz rows ρ rs w) (ho : Own ρ rs w B et sz v n xs) (hne : ∀ r ∈ rows, ∀ g, r.v.ownBlock = some g → v.ownBlock ≠ some g) : BkR B et sz (rows ++ [⟨v, n, xs⟩]) ρ rs w := by
  refine ⟨fun r hr => ?_, List.pairwise_append.2 ⟨h.apart, List.pairwise_singleton _ _, fun a ha b hb => ?_⟩⟩
  · rcases List.mem_append.1 hr with h1 | h1
    · exact h.own r h1
    · rw [List.mem_singleton.1 h1]
      exact ho
  · rw [List.mem_singleton.1 hb]
    exact hne a ha
theorem BkR.at_ (h : BkR B et sz rows ρ rs w) {i : Nat} {r : BRow} (hr : rows[i]? = some r) : Own ρ rs w B et sz r.v r.n r.xs := h.own r (List.mem_of_getElem? hr)
theorem BkR.ne (h : BkR B et sz rows ρ rs w) {i j : Nat} {a b : BRow} (ha : rows[i]? = some a) (hb : rows[j]? = some b) (hij : i ≠ j) {g : Nat} (hg : a.v.ownBlock = some g) : b.v.ownBlock ≠ some g := by
  obtain ⟨h1, rfl⟩ := List.getElem?_eq_some_iff.1 ha
  obtain ⟨h2, rfl⟩ := List.getElem?_eq_some_iff.1 hb
  rcases Nat.lt_or_gt_of_ne hij with h3 | h3
  · exact List.pairwise_iff_getElem.1 h.apart i j h1 h2 h3 g hg
  · exact fun e => List.pairwise_iff_getElem.1 h.apart j i h2 h1 h3 g e hg
/-- a row's contents are others -/
theorem BkR.set (h : BkR B et sz rows ρ rs w) {i : Nat} {r : BRow} {ys : List Value} (hr : rows[i]? = some r) (ho : Own ρ' rs' w' B et sz r.v r.n ys) (hf : ∀ x ∈ rows, (∀ g, r.v.ownBlock = some g → x.v.ownBlock ≠ some g) → Own ρ rs w B et sz x.v x.n x.xs → Own ρ' rs' w' B et sz x.v x.n x.xs) : BkR B et sz (rows.set i ⟨r.v, r.n, ys⟩) ρ' rs' w' := by
  obtain ⟨h1, h2⟩ := List.getElem?_eq_some_iff.1 hr
  have hlen : (rows.set i ⟨r.v, r.n, ys⟩).length = rows.length := List.length_set
  have key : ∀ j (hj : j < rows.length), ((rows.set i ⟨r.v, r.n, ys⟩)[j]'(by rw [hlen]; exact hj)).v = rows[j].v := fun j hj => by
    rw [List.getElem_set]
    split
    · rename_i e
      subst e
      rw [← h2]
    · rfl
  refine ⟨fun x hx => ?_, List.pairwise_iff_getElem.2 fun a b ha hb hab => ?_⟩
  · obtain ⟨j, hj, rfl⟩ := List.mem_iff_getElem.1 hx
    rw [hlen] at hj
    rw [List.getElem_set]
    split
    · exact ho
    · rename_i hne
      exact hf _ (List.getElem_mem hj) (fun g hg => h.ne hr (List.getElem?_eq_getElem hj) hne hg) (h.own _ (List.getElem_mem hj))
  · rw [hlen] at ha hb
    rw [key a ha, key b hb]
    exact List.pairwise_iff_getElem.1 h.apart a b ha hb hab
end
end Go.Proofs.Ytioehmngkoffaaa
