/-
  The box of lists (complinebook.Book): its cells come into view.
-/
import Derived.Test.YtedfbdeklepekaaGreatBkR
namespace Go.Proofs.YtedfbdeklepekaaGreat
open Go Go.RowKit
/-- a block comes into view -/
theorem blk_open {w : World} {b : Nat} {t : TypeId} {cs : List Value} (h : Blk w b t cs.toArray) (wr : Bool) (T : List Nat) (hT : wr = true → b ∈ T) (hu : undL 0 (cs.map .v) = true) : ∃ ρ : Nm, ρ 0 = (b, 0) ∧ Rel T w ρ [⟨cs.map .v, wr⟩] w := by
  obtain ⟨ρ, _, e0, hR⟩ := (Rel.start T w ρ0).open_ rfl b 0 (cs.map .v) hu wr h.lt (fun j v hv => by
    rw [Nat.zero_add, h.cell j]
    rw [List.getElem?_map] at hv
    obtain ⟨u, h3, rfl⟩ := Option.map_eq_some_iff.1 hv
    rw [List.getElem?_toArray, h3]
    rfl) (fun hb => ⟨.inl (hT hb), fun i _ => by rw [Nat.zero_add]; exact h.frozen i⟩) (fun n r hn => by simp at hn)
  exact ⟨ρ, e0, hR⟩
/-- the lists, and copies of them, in turn -/
def bkC (x : Nat → Value) : List Value := x 0 :: x 1 :: x 2 :: x 3 :: x 4 :: x 5 :: x 6 :: x 7 :: x 8 :: x 9 :: x 10 :: x 11 :: x 12 :: x 13 :: x 14 :: x 15 :: x 16 :: x 17 :: x 18 :: x 19 :: x 20 :: x 21 :: x 22 :: x 23 :: x 24 :: x 25 :: x 26 :: x 27 :: x 28 :: x 29 :: x 30 :: x 31 :: x 32 :: x 33 :: []
def nilS : Value := .slice none 0 0
end Go.Proofs.YtedfbdeklepekaaGreat
