/-
  What stands in some blocks, none of which is written in view: it stands through all steps. Over any program.
-/
import Derived.Test.YtioehmngkoffaaaMapAB
namespace Go.Proofs.Ytioehmngkoffaaa
open Go Go.RowKit
/-- V stands in the blocks of S -/
structure Sta (S : Nat → Prop) (V : World → Prop) (ρ : Nm) (rs : List Reg) (w : World) : Prop where
  is : V w
  far : ∀ x, S x → ¬ wrS ρ rs x
  lt : ∀ x, S x → x < w.heap.size
  same : ∀ (w1 w2 : World) (S' : Nat → Prop), V w1 → (∀ x, S x → x < w1.heap.size) → Kept S' w1 w2 → (∀ x, S x → ¬ S' x) → V w2
section
variable {S : Nat → Prop} {V : World → Prop} {ρ ρ' : Nm} {rs rs' : List Reg} {w w' : World}
theorem Sta.kept (h : Sta S V ρ rs w) {S' : Nat → Prop} (hk : Kept S' w w') (hn : ∀ x, S x → ¬ S' x) : Sta S V ρ rs w' := ⟨h.same w w' S' h.is h.lt hk hn, h.far, fun x hx => Nat.lt_of_lt_of_le (h.lt x hx) hk.size, h.same⟩
theorem Sta.moved (h : Sta S V ρ rs w) (hm : Moved ρ rs w ρ' rs' w') : Sta S V ρ' rs' w' :=
  ⟨h.same w w' _ h.is h.lt hm.kept h.far, fun x hx hw => (hm.wrs x hw).elim (h.far x hx) (fun h1 => by have := h.lt x hx; omega), fun x hx => Nat.lt_of_lt_of_le (h.lt x hx) hm.kept.size, h.same⟩
theorem Sta.below (h : Sta S V ρ rs w) (hb : Below w.heap.size w w') : Sta S V ρ rs w' := h.kept (Kept.of_below (fun _ => False) hb) (fun _ _ h => h)
theorem Sta.drew (h : Sta S V ρ rs w) : Sta S V ρ rs w.drew := h.kept (Kept.drew w (fun _ => False)) (fun _ _ h => h)
theorem Sta.castR (h : Sta S V ρ rs w) (e : rs = rs') : Sta S V ρ rs' w := e ▸ h
theorem Sta.cut {N : Nat} (h : Sta S V ρ' rs' w) (hag : Ag N ρ ρ' rs') (hN : rs.length = N) (e0 : rs'.take N = rs) : Sta S V ρ rs w := ⟨h.is, fun x hx hw => h.far x hx (wrS_cut hag hN e0 hw), h.lt, h.same⟩
theorem Sta.turnM (h : Sta S V ρ rs w) {g : Nat} (ht : TurnM g w w') (hg : ¬ S g) : Sta S V ρ rs w' := h.kept ht.kept (fun _ hx e => hg (e ▸ hx))
theorem Sta.turnI (h : Sta S V ρ rs w) {g : Nat} (ht : TurnI g w w') (hg : ¬ S g) : Sta S V ρ rs w' := h.kept ht.kept (fun _ hx e => hg (e ▸ hx))
theorem Sta.grown (h : Sta S V ρ rs w) {row : Option Nat} (hg : w.grownBy w' row) (hn : ∀ x, S x → row ≠ some x) : Sta S V ρ rs w' :=
  h.kept (S' := fun x => row = some x) ⟨hg.os, hg.tape, hg.output, hg.size, fun k hk hne => hg.block k hk (fun e => hne e.symm)⟩ (fun x hx e => hn x hx e)
/-- what is new behind a call -/
theorem Sta.new {T : List Nat} {w0 : World} (hR : Rel T w0 ρ rs w) (hV : V w') (hge : ∀ x, S x → w.heap.size ≤ x) (hlt : ∀ x, S x → x < w'.heap.size) (same : ∀ (w1 w2 : World) (S' : Nat → Prop), V w1 → (∀ x, S x → x < w1.heap.size) → Kept S' w1 w2 → (∀ x, S x → ¬ S' x) → V w2) : Sta S V ρ rs w' :=
  ⟨hV, fun x hx hw => by have := hR.wr_lt hw; have := hge x hx; omega, hlt, same⟩
/-- nothing is written in view -/
theorem Sta.ro_ (hV : V w) (hro : allRo rs = true) (hlt : ∀ x, S x → x < w.heap.size) (same : ∀ (w1 w2 : World) (S' : Nat → Prop), V w1 → (∀ x, S x → x < w1.heap.size) → Kept S' w1 w2 → (∀ x, S x → ¬ S' x) → V w2) : Sta S V ρ rs w := ⟨hV, fun _ _ hw => wrS_allRo hro hw, hlt, same⟩
/-- other places in view, none of which is written there -/
theorem Sta.over (h : Sta S V ρ rs w) (hf : ∀ x, S x → ¬ wrS ρ' rs' x) : Sta S V ρ' rs' w := ⟨h.is, hf, h.lt, h.same⟩
theorem Sta.map {V' : World → Prop} (h : Sta S V ρ rs w) (hV : V' w) (same : ∀ (w1 w2 : World) (S' : Nat → Prop), V' w1 → (∀ x, S x → x < w1.heap.size) → Kept S' w1 w2 → (∀ x, S x → ¬ S' x) → V' w2) : Sta S V' ρ rs w := ⟨hV, h.far, h.lt, same⟩
end
end Go.Proofs.Ytioehmngkoffaaa
