/-
  complinelaw14.Op: an argument of this type opened (its list stays unopened).
-/
import Derived.Test.YtodjhkmbgennaaaInst
namespace Go.Proofs.Ytodjhkmbgennaaa
open Go.ChangeShapes Go.WideShapes Go.ChangeAt Go.RowKit

structure OpR where
  kind : Int
  a : Int
  b : Int
  c : Int
  t : Tm
  on : Bool
  off : Bool
  party : ByteArray
  l : Value
def OpR.cells (o : OpR) : List Value := [.int .i64 o.kind, .int .i64 o.a, .int .i64 o.b, .int .i64 o.c] ++ o.t.cells ++ [.bool o.on, .bool o.off, .string o.party, o.l]
structure OpR.ok (o : OpR) : Prop where
  kind : Is64 o.kind
  a : Is64 o.a
  b : Is64 o.b
  c : Is64 o.c
  t : o.t.ok
  party : o.party.size ≤ maxLen
def OpR.val (o : OpR) : Value := .agg o.cells.toArray
def opShape : List Leaf := [.int, .int, .int, .int] ++ termShape ++ [.bool, .bool, .text, .any]
theorem op_shape : shapeOf Try.prog 5 55 = some opShape := by kernel_rfl
theorem fit_any {ks : List Leaf} {cs : List Value} (h : AllFit (.any :: ks) cs) : ∃ (z : Value) (vs : List Value), cs = z :: vs ∧ AllFit ks vs := by
  cases cs with
  | nil => exact h.elim
  | cons v vs => exact ⟨v, vs, rfl, h.2⟩
theorem tm_app {cs : List Value} {ks : List Leaf} (h0 : AllFit (termShape ++ ks) cs) : ∃ (t : Tm) (vs : List Value), cs = t.cells ++ vs ∧ t.ok ∧ AllFit ks vs := by
  have hsplit : ∀ (ks ks' : List Leaf) (cs : List Value), AllFit (ks ++ ks') cs → ∃ vs vs', cs = vs ++ vs' ∧ AllFit ks vs ∧ AllFit ks' vs' := by
    intro ks
    induction ks with
    | nil => intro ks' cs h; exact ⟨[], cs, rfl, trivial, h⟩
    | cons k ks ih =>
      intro ks' cs h
      cases cs with
      | nil => exact h.elim
      | cons v vs =>
        obtain ⟨h1, h2⟩ := h
        obtain ⟨us, us', rfl, h3, h4⟩ := ih ks' vs h2
        exact ⟨v :: us, us', rfl, ⟨h1, h3⟩, h4⟩
  obtain ⟨vs, vs', rfl, h1, h2⟩ := hsplit _ _ _ h0
  obtain ⟨t, rfl, ht⟩ := tm_of h1
  exact ⟨t, vs', rfl, ht, h2⟩
theorem op_of {cs : List Value} (h0 : AllFit opShape cs) : ∃ x : OpR, cs = x.cells ∧ x.ok := by
  obtain ⟨i0, r0, rfl, s0, h1⟩ := fit_int h0
  clear h0
  obtain ⟨i1, r1, rfl, s1, h2⟩ := fit_int h1
  clear h1
  obtain ⟨i2, r2, rfl, s2, h3⟩ := fit_int h2
  clear h2
  obtain ⟨i3, r3, rfl, s3, h4⟩ := fit_int h3
  clear h3
  obtain ⟨t, r4, rfl, ht, h5⟩ := tm_app h4
  clear h4
  obtain ⟨b0, r5, rfl, h6⟩ := fit_bool h5
  clear h5
  obtain ⟨b1, r6, rfl, h7⟩ := fit_bool h6
  clear h6
  obtain ⟨p, r7, rfl, sp, h8⟩ := fit_text h7
  clear h7
  obtain ⟨l, r8, rfl, h9⟩ := fit_any h8
  clear h8
  obtain rfl := fit_nil h9
  exact ⟨⟨i0, i1, i2, i3, t, b0, b1, p, l⟩, rfl, ⟨s0, s1, s2, s3, ht, sp⟩⟩
set_option maxRecDepth 100000 in
theorem open_op {H : Type} {enc : TypeId × Value → H} {w : World} {r : Reach} {b0 : Nat} {v : Value} {d : DataW H} {p : List MemPlace} (hv : Value.okWide Try.prog w r b0 55 v) (h : DataW.Trod enc Try.prog w 0 (fun _ => true) true 55 v d p) :
    ∃ x : OpR, v = x.val ∧ x.ok := by
  obtain ⟨cs, rfl, _⟩ := okWide_struct Try.underlying55 hv
  obtain ⟨fuel, hf⟩ := h
  have hf2 : DataW.trod enc Try.prog w 0 (fun _ => true) true fuel 55 cs.toList = some (d, p) := hf
  obtain ⟨x, hx, hok⟩ := op_of (shape_fits 5 _ _ _ _ _ op_shape hf2)
  refine ⟨x, ?_, hok⟩
  unfold OpR.val
  rw [← hx]
end Go.Proofs.Ytodjhkmbgennaaa
