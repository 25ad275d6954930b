/-
  api.Inst and api.Term: their cells, and an argument of such a type opened.
-/
import Derived.Test.YtnfgndapalkbcaaShape
import Derived.Test.YtnfgndapalkbcaaProg
namespace Go.Proofs.Ytnfgndapalkbcaa
open Go.ChangeShapes Go.WideShapes Go.ChangeAt Go.RowKit

/-- what an instruction is about -/
structure Tm where
  party : ByteArray
  account : ByteArray
  money : ByteArray
  other : ByteArray
  deliver : Bool
  asset : ByteArray
  ccy : ByteArray
  ref : ByteArray
  qty : Int
  amount : Int
  day : Int
  trade : Int
/-- an instruction -/
structure In where
  id : Int
  term : Tm
  prio : Int
  part : Bool
  held : Bool
  wish : Bool
  state : Int
  mate : Int
  done : Int
  paid : Int

def Tm.cells (t : Tm) : List Value := [.string t.party, .string t.account, .string t.money, .string t.other, .bool t.deliver, .string t.asset, .string t.ccy, .string t.ref, .int .i64 t.qty, .int .i64 t.amount, .int .i64 t.day, .int .i64 t.trade]
def In.cells (x : In) : List Value := [.int .i64 x.id] ++ x.term.cells ++ [.int .i64 x.prio, .bool x.part, .bool x.held, .bool x.wish, .int .i64 x.state, .int .i64 x.mate, .int .i64 x.done, .int .i64 x.paid]
structure Tm.ok (t : Tm) : Prop where
  party : t.party.size ≤ maxLen
  account : t.account.size ≤ maxLen
  money : t.money.size ≤ maxLen
  other : t.other.size ≤ maxLen
  asset : t.asset.size ≤ maxLen
  ccy : t.ccy.size ≤ maxLen
  ref : t.ref.size ≤ maxLen
  qty : Is64 t.qty
  amount : Is64 t.amount
  day : Is64 t.day
  trade : Is64 t.trade
structure In.ok (x : In) : Prop where
  id : Is64 x.id
  term : x.term.ok
  prio : Is64 x.prio
  state : Is64 x.state
  mate : Is64 x.mate
  done : Is64 x.done
  paid : Is64 x.paid

def termShape : List Leaf := [.text, .text, .text, .text, .bool, .text, .text, .text, .int, .int, .int, .int]
def instShape : List Leaf := [.int] ++ termShape ++ [.int, .bool, .bool, .bool, .int, .int, .int, .int]
theorem term_shape : shapeOf Try.prog 3 53 = some termShape := by kernel_rfl
theorem inst_shape : shapeOf Try.prog 4 55 = some instShape := by kernel_rfl

theorem tm_of {cs : List Value} (h0 : AllFit termShape cs) : ∃ t : Tm, cs = t.cells ∧ t.ok := by
  obtain ⟨a0, ar0, rfl, sa0, h1⟩ := fit_text h0
  clear h0
  obtain ⟨a1, ar1, rfl, sa1, h2⟩ := fit_text h1
  clear h1
  obtain ⟨a2, ar2, rfl, sa2, h3⟩ := fit_text h2
  clear h2
  obtain ⟨a3, ar3, rfl, sa3, h4⟩ := fit_text h3
  clear h3
  obtain ⟨a4, ar4, rfl, h5⟩ := fit_bool h4
  clear h4
  obtain ⟨a5, ar5, rfl, sa5, h6⟩ := fit_text h5
  clear h5
  obtain ⟨a6, ar6, rfl, sa6, h7⟩ := fit_text h6
  clear h6
  obtain ⟨a7, ar7, rfl, sa7, h8⟩ := fit_text h7
  clear h7
  obtain ⟨a8, ar8, rfl, sa8, h9⟩ := fit_int h8
  clear h8
  obtain ⟨a9, ar9, rfl, sa9, h10⟩ := fit_int h9
  clear h9
  obtain ⟨a10, ar10, rfl, sa10, h11⟩ := fit_int h10
  clear h10
  obtain ⟨a11, ar11, rfl, sa11, h12⟩ := fit_int h11
  clear h11
  obtain rfl := fit_nil h12
  exact ⟨⟨a0, a1, a2, a3, a4, a5, a6, a7, a8, a9, a10, a11⟩, rfl, ⟨sa0, sa1, sa2, sa3, sa5, sa6, sa7, sa8, sa9, sa10, sa11⟩⟩
theorem in_of {cs : List Value} (h0 : AllFit instShape cs) : ∃ x : In, cs = x.cells ∧ x.ok := by
  obtain ⟨i0, ir0, rfl, si0, h1⟩ := fit_int h0
  clear h0
  obtain ⟨a0, ar0, rfl, sa0, h2⟩ := fit_text h1
  clear h1
  obtain ⟨a1, ar1, rfl, sa1, h3⟩ := fit_text h2
  clear h2
  obtain ⟨a2, ar2, rfl, sa2, h4⟩ := fit_text h3
  clear h3
  obtain ⟨a3, ar3, rfl, sa3, h5⟩ := fit_text h4
  clear h4
  obtain ⟨a4, ar4, rfl, h6⟩ := fit_bool h5
  clear h5
  obtain ⟨a5, ar5, rfl, sa5, h7⟩ := fit_text h6
  clear h6
  obtain ⟨a6, ar6, rfl, sa6, h8⟩ := fit_text h7
  clear h7
  obtain ⟨a7, ar7, rfl, sa7, h9⟩ := fit_text h8
  clear h8
  obtain ⟨a8, ar8, rfl, sa8, h10⟩ := fit_int h9
  clear h9
  obtain ⟨a9, ar9, rfl, sa9, h11⟩ := fit_int h10
  clear h10
  obtain ⟨a10, ar10, rfl, sa10, h12⟩ := fit_int h11
  clear h11
  obtain ⟨a11, ar11, rfl, sa11, h13⟩ := fit_int h12
  clear h12
  obtain ⟨e0, er0, rfl, se0, h14⟩ := fit_int h13
  clear h13
  obtain ⟨e1, er1, rfl, h15⟩ := fit_bool h14
  clear h14
  obtain ⟨e2, er2, rfl, h16⟩ := fit_bool h15
  clear h15
  obtain ⟨e3, er3, rfl, h17⟩ := fit_bool h16
  clear h16
  obtain ⟨e4, er4, rfl, se4, h18⟩ := fit_int h17
  clear h17
  obtain ⟨e5, er5, rfl, se5, h19⟩ := fit_int h18
  clear h18
  obtain ⟨e6, er6, rfl, se6, h20⟩ := fit_int h19
  clear h19
  obtain ⟨e7, er7, rfl, se7, h21⟩ := fit_int h20
  clear h20
  obtain rfl := fit_nil h21
  exact ⟨⟨i0, ⟨a0, a1, a2, a3, a4, a5, a6, a7, a8, a9, a10, a11⟩, e0, e1, e2, e3, e4, e5, e6, e7⟩, rfl, ⟨si0, ⟨sa0, sa1, sa2, sa3, sa5, sa6, sa7, sa8, sa9, sa10, sa11⟩, se0, se4, se5, se6, se7⟩⟩

def In.val (x : In) : Value := .agg x.cells.toArray
def Tm.val (t : Tm) : Value := .agg t.cells.toArray

set_option maxRecDepth 100000 in
theorem open_inst {H : Type} {enc : TypeId × Value → H} {w : World} {r : Reach} {b0 : Nat} {v : Value} {d : DataW H} {p : List MemPlace} (hv : Value.okWide Try.prog w r b0 55 v) (h : DataW.Trod enc Try.prog w 0 (fun _ => true) true 55 v d p) :
    ∃ x : In, v = x.val ∧ x.ok := by
  obtain ⟨cs, rfl, _⟩ := okWide_struct Try.underlying55 hv
  obtain ⟨fuel, hf⟩ := h
  have hf2 : DataW.trod enc Try.prog w 0 (fun _ => true) true fuel 55 cs.toList = some (d, p) := hf
  obtain ⟨x, hx, hok⟩ := in_of (shape_fits 4 _ _ _ _ _ inst_shape hf2)
  refine ⟨x, ?_, hok⟩
  unfold In.val
  rw [← hx]
end Go.Proofs.Ytnfgndapalkbcaa
