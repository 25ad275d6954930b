/-
  An argument that is a rank, opened.
-/
import Derived.Test.YtnfgndapalkbcaaSeqAC
import Derived.Test.YtnfgndapalkbcaaInst
namespace Go.Proofs.Ytnfgndapalkbcaa
open Go.ChangeShapes Go.WideShapes Go.ChangeAt Go.RowKit
theorem rank_shape : shapeOf Try.prog 2 47 = some [.int, .int, .int] := by kernel_rfl
theorem rk_of {cs : List Value} (h0 : AllFit [.int, .int, .int] cs) : ∃ x : Rk, cs = x.cells ∧ Is64 x.prio ∧ Is64 x.day ∧ Is64 x.id := by
  obtain ⟨a0, ar0, rfl, sa0, h1⟩ := fit_int h0
  obtain ⟨a1, ar1, rfl, sa1, h2⟩ := fit_int h1
  obtain ⟨a2, ar2, rfl, sa2, h3⟩ := fit_int h2
  obtain rfl := fit_nil h3
  exact ⟨⟨a0, a1, a2⟩, rfl, sa0, sa1, sa2⟩
set_option maxRecDepth 100000 in
theorem open_rk {H : Type} {enc : TypeId × Value → H} {w : World} {r : Reach} {b0 : Nat} {v : Value} {d : DataW H} {p : List MemPlace} (hv : Value.okWide Try.prog w r b0 47 v) (h : DataW.Trod enc Try.prog w 0 (fun _ => true) true 47 v d p) :
    ∃ x : Rk, v = x.val := by
  obtain ⟨cs, rfl, _⟩ := okWide_struct Try.underlying47 hv
  obtain ⟨fuel, hf⟩ := h
  have hf2 : DataW.trod enc Try.prog w 0 (fun _ => true) true fuel 47 cs.toList = some (d, p) := hf
  obtain ⟨x, hx, _⟩ := rk_of (shape_fits 2 _ _ _ _ _ rank_shape hf2)
  refine ⟨x, ?_⟩
  have e : x.val = .agg x.cells.toArray := rfl
  rw [e, ← hx]
end Go.Proofs.Ytnfgndapalkbcaa
