/-
  api.Link: what is known of one, and of a list of them, that was handed in.
-/
import Derived.Test.YtnfgndapalkbcaaLkP
import Derived.Test.YtnfgndapalkbcaaShapeW
namespace Go.Proofs.Ytnfgndapalkbcaa
open Go.ChangeShapes Go.WideShapes Go.ChangeAt Go.RowKit
def Lk.val (o : Lk) : Value := .agg o.cells.toArray
def lkSh : List Sh := [.int, .int, .int]
theorem lk_sh : shOf Try.prog 5 30 = some lkSh := by kernel_rfl
theorem lk_of {w : World} {cs : List Value} (h0 : Sh.all w maxLen lkSh cs) : ∃ x : Lk, cs = x.cells ∧ x.ok := by
  obtain ⟨i0, r0, rfl, s0, h1⟩ := all_int h0
  obtain ⟨i1, r1, rfl, s1, h2⟩ := all_int h1
  obtain ⟨i2, r2, rfl, s2, h3⟩ := all_int h2
  obtain rfl := all_nil h3
  exact ⟨⟨i0, i1, i2⟩, rfl, ⟨s0, s1, s2⟩⟩
theorem lks_of {w : World} : ∀ (xss : List (List Value)), (∀ x ∈ xss, Sh.all w maxLen lkSh x) → ∃ os : List Lk, xss = os.map Lk.cells ∧ ∀ o ∈ os, o.ok
  | [], _ => ⟨[], rfl, by simp⟩
  | x :: xss, h => by
    obtain ⟨os, rfl, h2⟩ := lks_of xss (fun y hy => h y (by simp [hy]))
    obtain ⟨o, rfl, ho⟩ := lk_of (h x (by simp))
    refine ⟨o :: os, rfl, fun y hy => ?_⟩
    rcases List.mem_cons.1 hy with rfl | hy
    · exact ho
    · exact h2 y hy
/-- a list of them -/
structure Lks (w : World) (A : Option Addr) (n : Nat) (os : List Lk) : Prop where
  rd : Reads w w.heap.size 3 A n (lkV os)
  ok : ∀ o ∈ os, o.ok
  max : n ≤ maxLen
set_option maxRecDepth 100000 in
theorem open_lk {H : Type} {enc : TypeId × Value → H} {w : World} {r : Reach} {b0 : Nat} {v : Value} {d : DataW H} {p : List MemPlace} (hv : Value.okWide Try.prog w r b0 30 v) (h : DataW.Trod enc Try.prog w 0 (fun _ => true) true 30 v d p) :
    ∃ x : Lk, v = x.val ∧ x.ok := by
  obtain ⟨cs, rfl, h1⟩ := open_structW Try.underlying30 lk_sh hv h (.inl (Nat.le_refl _))
  obtain ⟨x, rfl, hx⟩ := lk_of h1
  exact ⟨x, rfl, hx⟩
set_option maxRecDepth 100000 in
theorem open_lks {H : Type} {enc : TypeId × Value → H} {w : World} {r : Reach} {b0 : Nat} {v : Value} {d : DataW H} {p : List MemPlace} (hv : Value.okWide Try.prog w r b0 22 v) (h : DataW.Trod enc Try.prog w 0 (fun _ => true) true 22 v d p) :
    ∃ A n c os, v = .slice A n c ∧ Lks w A n os := by
  obtain ⟨A, n, c, xss, rfl, h1, h2, h3, h4, h5, h6⟩ := open_rowsW (n0 := 6) Try.underlying22 (by kernel_rfl) hv h (.inl (Nat.le_refl _))
  obtain ⟨os, rfl, hos⟩ := lks_of xss h5
  exact ⟨A, n, c, os, rfl, h1, hos, by omega⟩
end Go.Proofs.Ytnfgndapalkbcaa
