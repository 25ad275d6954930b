/-
  A row of one's own that no place in view lies in: it stands through what the executor does.
-/
import Derived.Test.YtodjhkmbgennaaaSimJ
namespace Go.Proofs.Ytodjhkmbgennaaa
open Go Go.RowKit

structure Own (ρ : Nm) (rs : List Reg) (w : World) (base : Nat) (e : TypeId) (size : Nat) (v : Value) (n : Nat) (xs : List Value) : Prop where
  own : w.ownsRow base e size v n xs
  far : ∀ g, v.ownBlock = some g → ¬ wrS ρ rs g
theorem Rel.wr_lt {T : List Nat} {w0 w : World} {ρ : Nm} {rs : List Reg} (hR : Rel T w0 ρ rs w) {g : Nat} (h : wrS ρ rs g) : g < w.heap.size := by
  obtain ⟨n, r, hn, hw, rfl⟩ := h
  exact hR.lt n r hn
theorem own_ge {w : World} {base : Nat} {e : TypeId} {size n : Nat} {v : Value} {xs : List Value} (h : w.ownsRow base e size v n xs) {g : Nat} (hg : v.ownBlock = some g) : base ≤ g := by
  rcases h.2 with ⟨rfl, _⟩ | ⟨g', cap, cur, rfl, hb, _⟩
  · cases hg
  · injection hg with hg
    rw [← hg]
    exact hb
theorem own_lt {w : World} {base : Nat} {e : TypeId} {size n : Nat} {v : Value} {xs : List Value} (h : w.ownsRow base e size v n xs) {g : Nat} (hg : v.ownBlock = some g) : g < w.heap.size := by
  rcases h.2 with ⟨rfl, _⟩ | ⟨g', cap, cur, rfl, hb, hh, r⟩
  · cases hg
  · injection hg with hg
    rw [← hg]
    exact (Array.getElem?_eq_some_iff.1 hh).1
theorem Own.start {T : List Nat} {w0 w w' : World} {ρ : Nm} {rs : List Reg} {e : TypeId} {size n : Nat} {v : Value} {xs : List Value} (hR : Rel T w0 ρ rs w) (h : w'.ownsRow w.heap.size e size v n xs) : Own ρ rs w' w.heap.size e size v n xs :=
  ⟨h, fun g hg hw => by have h1 := own_ge h hg; have h2 := hR.wr_lt hw; omega⟩
theorem Own.moved {ρ ρ' : Nm} {rs rs' : List Reg} {w w' : World} {base : Nat} {e : TypeId} {size n : Nat} {v : Value} {xs : List Value} (h : Own ρ rs w base e size v n xs) (hm : Moved ρ rs w ρ' rs' w') : Own ρ' rs' w' base e size v n xs :=
  ⟨own_kept h.own hm.kept h.far, fun g hg hw => by
    rcases hm.wrs g hw with h1 | h1
    · exact h.far g hg h1
    · have := own_lt h.own hg; omega⟩
theorem Own.below {ρ : Nm} {rs : List Reg} {w w' : World} {base : Nat} {e : TypeId} {size n : Nat} {v : Value} {xs : List Value} (h : Own ρ rs w base e size v n xs) (hb : Below w.heap.size w w') : Own ρ rs w' base e size v n xs :=
  ⟨own_kept (S := fun _ => False) h.own ⟨hb.os, hb.tape, hb.output, hb.size, fun k hk _ => hb.block k hk⟩ (fun _ _ h => h), h.far⟩
theorem Own.reads {ρ : Nm} {rs : List Reg} {w : World} {base : Nat} {e : TypeId} {size n cap : Nat} {A : Option Addr} {xs : List Value} (h : Own ρ rs w base e size (.slice A n cap) n xs) : Reads w w.heap.size size A n xs := Reads.of_own h.own
end Go.Proofs.Ytodjhkmbgennaaa
