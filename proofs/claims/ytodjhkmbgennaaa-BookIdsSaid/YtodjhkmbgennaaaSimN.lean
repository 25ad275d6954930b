/-
  A cell of a row that lay there before the call comes into view, beside rows that may be written. Over any program.
-/
import Derived.Test.YtodjhkmbgennaaaSimM
namespace Go.Proofs.Ytodjhkmbgennaaa
open Go Go.RowKit

theorem Reads.spot {w : World} {B size n : Nat} {A : Option Addr} {xs : List Value} (h : Reads w B size A n xs) (hn : 0 < n) (hs : 0 < size) : ∃ g o, A = some ⟨g, o, none⟩ ∧ g < B ∧ ∀ (j : Nat) (v : Value), xs[j]? = some v → w.cell? ⟨g, o + j, none⟩ = some v := by
  obtain ⟨ad, rfl, hb, hc⟩ := h.2 hn
  obtain ⟨g, o, sp⟩ := ad
  have hl : 0 < xs.length := by rw [h.1]; exact Nat.mul_pos hn hs
  have h0 := hc 0 _ (List.getElem?_eq_getElem hl)
  have hsp : sp = none := by
    cases sp with
    | none => rfl
    | some s =>
      unfold World.cell? Addr.add at h0
      simp at h0
      split at h0 <;> simp at h0
  subst hsp
  refine ⟨g, o, rfl, hb, fun j v hv => ?_⟩
  have := hc j v hv
  unfold Addr.add at this
  split at this
  · rename_i h0
    subst h0
    exact this
  · exact this
section
variable {P : Program} {Q : Exit → Act → World → Prop} {T : List Nat} {w0 w : World} {ρ : Nm} {c : Cfg}
/-- a row's cell is met -/
theorem sim_cell {A : Option Addr} {n B : Nat} {xs : List Value} (cp k N : Nat) (u : Value) (h : idxOf P c = some (.v (.slice A n cp), n, (k : Int), 1)) (hN : c.rs.length = N) (hk : k < n) (hrd : Reads w0 B 1 A n xs) (hx : xs[k]? = some u) (hB : B ≤ w0.heap.size) (hT : ∀ a, A = some a → a.block ∉ T) (hR : Rel T w0 ρ c.rs w)
    (hu : (undR N c.rs && undL N c.tmps) = true) (next : ∀ ρ', Moved ρ c.rs w ρ' (c.rs ++ [⟨[.v u], false⟩]) w → (∀ t ∈ T, (ρ' N).1 ≠ t) → Rel T w0 ρ' (c.rs ++ [⟨[.v u], false⟩]) w → At P Q (nextC c (.ptr N 0) (c.rs ++ [⟨[.v u], false⟩])) ρ' w) : At P Q c ρ w := by
  obtain ⟨g, o, rfl, hg, hc⟩ := hrd.spot (by omega) (by omega)
  simp only [Bool.and_eq_true] at hu
  have hgT := hT _ rfl
  have hblk : w.heap[g]? = w0.heap[g]? := hR.keeps.block g (by omega) hgT
  subst hN
  refine sim_index (.v (.slice (some ⟨g, o, none⟩) n cp)) n 1 k c.rs.length h rfl (by omega) (by omega) rfl hR [.v u] (by rw [hu.1, hu.2]; rfl) (by have := hR.keeps.size; omega) (fun j v hv => ?_) (fun m r hm hw he => ?_) (fun ρ' ha hn hR' => next ρ' (Moved.ext_ro ha rfl) (fun t ht e => by rw [hn] at e; have e2 : g = t := e; exact hgT (by rw [show (⟨g, o, none⟩ : Addr).block = t from e2]; exact ht)) hR')
  · match j, hv with
    | 0, hv =>
      injection hv with hv
      subst hv
      have := hc k u hx
      rw [Int.toNat_natCast, Nat.mul_one, Nat.add_zero]
      exact (World.cell?_of_block (a := ⟨g, o + k, none⟩) hblk).trans this
  · rcases (hR.wr m r hm hw).1 with h1 | h1
    · exact hgT (he ▸ h1)
    · omega
end
end Go.Proofs.Ytodjhkmbgennaaa
