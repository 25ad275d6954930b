/-
  complinelaw17.Op: its cells, and what is known of a list of them that was handed in.
-/
import Derived.Test.YtedfbdeklepekaaGreatProg
import Derived.Test.YtedfbdeklepekaaGreatOpGLk
namespace Go.Proofs.YtedfbdeklepekaaGreat
open Go.ChangeShapes Go.WideShapes Go.ChangeAt Go.RowKit
structure OpU where
  kind : Int
  n : Int
  l : IRow
def OpU.cells (o : OpU) : List Value := [.int .i64 o.kind, .int .i64 o.n, .slice o.l.A o.l.n o.l.c]
structure OpU.ok (w : World) (B : Nat) (o : OpU) : Prop where
  kind : Is64 o.kind
  n : Is64 o.n
  l : o.l.ok w B
def opUSh : List Sh := [.int, .int, .rows [.int]]
theorem opU_of {w : World} {M : Nat} {cs : List Value} (h0 : Sh.all w M opUSh cs) : ∃ x : OpU, cs = x.cells ∧ x.ok w w.heap.size := by
  obtain ⟨i0, r0, rfl, s0, h1⟩ := all_int h0
  clear h0
  obtain ⟨i1, r1, rfl, s1, h2⟩ := all_int h1
  clear h1
  obtain ⟨l, r8, rfl, hl, _, h9⟩ := all_irow h2
  clear h2
  obtain rfl := all_nil h9
  exact ⟨⟨i0, i1, l⟩, rfl, ⟨s0, s1, hl⟩⟩
theorem opUs_of {w : World} {M : Nat} : ∀ (xss : List (List Value)), (∀ x ∈ xss, Sh.all w M opUSh x) → ∃ os : List OpU, xss = os.map OpU.cells ∧ ∀ o ∈ os, o.ok w w.heap.size
  | [], _ => ⟨[], rfl, by simp⟩
  | x :: xss, h => by
    obtain ⟨os, rfl, h2⟩ := opUs_of xss (fun y hy => h y (by simp [hy]))
    obtain ⟨o, rfl, ho⟩ := opU_of (h x (by simp))
    refine ⟨o :: os, rfl, fun y hy => ?_⟩
    rcases List.mem_cons.1 hy with rfl | hy
    · exact ho
    · exact h2 y hy
theorem opU_len (os : List OpU) : ∀ y ∈ os.map OpU.cells, y.length = 3 := by
  intro y hy
  obtain ⟨o, _, rfl⟩ := List.mem_map.1 hy
  rfl
/-- a list of them -/
structure OpUs (w : World) (A : Option Addr) (n : Nat) (os : List OpU) : Prop where
  rd : Reads w w.heap.size 3 A n (os.map OpU.cells).flatten
  len : os.length = n
  ok : ∀ o ∈ os, o.ok w w.heap.size
  max : n ≤ maxLen
set_option maxRecDepth 100000 in
theorem open_opUs {H : Type} {enc : TypeId × Value → H} {w : World} {r : Reach} {b0 : Nat} {v : Value} {d : DataW H} {p : List MemPlace} (hv : Value.okWide Tryz.prog w r b0 22 v) (h : DataW.Trod enc Tryz.prog w 0 (fun _ => true) true 22 v d p) :
    ∃ A n c os, v = .slice A n c ∧ OpUs w A n os := by
  obtain ⟨A, n, c, xss, rfl, h1, h2, h3, h4, h5, _⟩ := open_rowsW (n0 := 6) (M := maxLen) (ks := opUSh) Tryz.underlying22 (by kernel_rfl) hv h (.inl (Nat.le_refl _))
  obtain ⟨os, rfl, hos⟩ := opUs_of xss h5
  exact ⟨A, n, c, os, rfl, h1, by simpa using h4, hos, by omega⟩
end Go.Proofs.YtedfbdeklepekaaGreat
