/-
  complinelaw10.Op: its cells, and what is known of one that was handed in.
-/
import Derived.Test.YtgbgedaedcofcaaPosAC
import Derived.Test.YtgbgedaedcofcaaShapeW
namespace Go.Proofs.Ytgbgedaedcofcaa
open Go.ChangeShapes Go.WideShapes Go.ChangeAt Go.RowKit

structure OpP where
  acc : ByteArray
  asset : ByteArray
  sub : Int
  amt : Int
def OpP.cells (o : OpP) : List Value := [.string o.acc, .string o.asset, .int .i64 o.sub, .int .i64 o.amt]
structure OpP.ok (o : OpP) : Prop where
  sub : Is64 o.sub
  amt : Is64 o.amt
  accS : o.acc.size ≤ 9223372036854775807
  assetS : o.asset.size ≤ 9223372036854775807
def OpP.val (o : OpP) : Value := .agg o.cells.toArray
def OpP.key (o : OpP) : Key := (o.acc, o.asset)
def opSh : List Sh := [.text, .text, .int, .int]
theorem op_sh : shOf Try.prog 5 26 = some opSh := by kernel_rfl
theorem op_of {w : World} {cs : List Value} (h0 : Sh.all w maxLen opSh cs) : ∃ x : OpP, cs = x.cells ∧ x.ok := by
  obtain ⟨a0, r0, rfl, t0, h1⟩ := all_text h0
  obtain ⟨a1, r1, rfl, t1, h2⟩ := all_text h1
  obtain ⟨i0, r2, rfl, s0, h3⟩ := all_int h2
  obtain ⟨i1, r3, rfl, s1, h4⟩ := all_int h3
  obtain rfl := all_nil h4
  exact ⟨⟨a0, a1, i0, i1⟩, rfl, ⟨s0, s1, t0, t1⟩⟩
theorem ops_of {w : World} : ∀ (xss : List (List Value)), (∀ x ∈ xss, Sh.all w maxLen opSh x) → ∃ os : List OpP, xss = os.map OpP.cells ∧ ∀ o ∈ os, o.ok
  | [], _ => ⟨[], rfl, by simp⟩
  | x :: xss, h => by
    obtain ⟨os, rfl, h2⟩ := ops_of xss (fun y hy => h y (by simp [hy]))
    obtain ⟨o, rfl, ho⟩ := op_of (h x (by simp))
    refine ⟨o :: os, rfl, fun y hy => ?_⟩
    rcases List.mem_cons.1 hy with rfl | hy
    · exact ho
    · exact h2 y hy
theorem op_len (os : List OpP) : ∀ y ∈ os.map OpP.cells, y.length = 4 := by
  intro y hy
  obtain ⟨o, _, rfl⟩ := List.mem_map.1 hy
  rfl
/-- a list of them -/
structure Ops (w : World) (A : Option Addr) (n : Nat) (os : List OpP) : Prop where
  rd : Reads w w.heap.size 4 A n (os.map OpP.cells).flatten
  len : os.length = n
  ok : ∀ o ∈ os, o.ok
  max : n ≤ maxLen
theorem Ops.at_ {w w' : World} {A : Option Addr} {n : Nat} {os : List OpP} (h : Ops w A n os) (hb : Below w.heap.size w w') : Ops w' A n os :=
  ⟨(h.rd.below hb).more hb.size, h.len, h.ok, h.max⟩
theorem Ops.get {w : World} {A : Option Addr} {n : Nat} {os : List OpP} (h : Ops w A n os) {k : Nat} (hk : k < n) : ∃ o, os[k]? = some o ∧ o.ok ∧ (os.map OpP.cells)[k]? = some o.cells := by
  have hl := h.len
  have e : os[k]? = some (os[k]'(by omega)) := List.getElem?_eq_getElem _
  exact ⟨_, e, h.ok _ (List.getElem_mem _), by rw [List.getElem?_map, e]; rfl⟩
set_option maxRecDepth 100000 in
theorem open_op {H : Type} {enc : TypeId × Value → H} {w : World} {r : Reach} {b0 : Nat} {v : Value} {d : DataW H} {p : List MemPlace} (hv : Value.okWide Try.prog w r b0 26 v) (h : DataW.Trod enc Try.prog w 0 (fun _ => true) true 26 v d p) :
    ∃ x : OpP, v = x.val ∧ x.ok := by
  obtain ⟨cs, rfl, h1⟩ := open_structW Try.underlying26 op_sh hv h (.inl (Nat.le_refl _))
  obtain ⟨x, rfl, hx⟩ := op_of h1
  exact ⟨x, rfl, hx⟩
set_option maxRecDepth 100000 in
theorem open_ops {H : Type} {enc : TypeId × Value → H} {w : World} {r : Reach} {b0 : Nat} {v : Value} {d : DataW H} {p : List MemPlace} (hv : Value.okWide Try.prog w r b0 22 v) (h : DataW.Trod enc Try.prog w 0 (fun _ => true) true 22 v d p) :
    ∃ A n c os, v = .slice A n c ∧ Ops w A n os := by
  obtain ⟨A, n, c, xss, rfl, h1, h2, h3, h4, h5, h6⟩ := open_rowsW (n0 := 6) Try.underlying22 (by kernel_rfl) hv h (.inl (Nat.le_refl _))
  obtain ⟨os, rfl, hos⟩ := ops_of xss h5
  exact ⟨A, n, c, os, rfl, h1, by simpa using h4, hos, by omega⟩
end Go.Proofs.Ytgbgedaedcofcaa
