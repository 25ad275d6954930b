/-
  complinelaw14.Op: its cells, and what is known of one that was handed in.
-/
import Derived.Test.YtodjhkmbgennaaaInst
import Derived.Test.YtodjhkmbgennaaaShapeW
namespace Go.Proofs.Ytodjhkmbgennaaa
open Go.ChangeShapes Go.WideShapes Go.ChangeAt Go.RowKit

structure OpR where
  kind : Int
  a : Int
  b : Int
  c : Int
  t : Tm
  on : Bool
  off : Bool
  party : ByteArray
  l : IRow
def OpR.cells (o : OpR) : List Value := [.int .i64 o.kind, .int .i64 o.a, .int .i64 o.b, .int .i64 o.c] ++ o.t.cells ++ [.bool o.on, .bool o.off, .string o.party, .slice o.l.A o.l.n o.l.c]
structure Tm.okM (M : Nat) (t : Tm) : Prop where
  party : t.party.size ≤ M
  account : t.account.size ≤ M
  money : t.money.size ≤ M
  other : t.other.size ≤ M
  asset : t.asset.size ≤ M
  ccy : t.ccy.size ≤ M
  ref : t.ref.size ≤ M
  qty : Is64 t.qty
  amount : Is64 t.amount
  day : Is64 t.day
  trade : Is64 t.trade
structure OpR.ok (w : World) (B M : Nat) (o : OpR) : Prop where
  kind : Is64 o.kind
  a : Is64 o.a
  b : Is64 o.b
  c : Is64 o.c
  t : o.t.okM M
  l : o.l.ok w B
def OpR.val (o : OpR) : Value := .agg o.cells.toArray
def termSh : List Sh := [.text, .text, .text, .text, .bool, .text, .text, .text, .int, .int, .int, .int]
def opSh : List Sh := [.int, .int, .int, .int] ++ termSh ++ [.bool, .bool, .text, .rows [.int]]
theorem op_sh : shOf Try.prog 5 55 = some opSh := by kernel_rfl
theorem term_sh : shOf Try.prog 4 23 = some termSh := by kernel_rfl
theorem tm_ofW {w : World} {M : Nat} {cs : List Value} (h0 : Sh.all w M termSh cs) : ∃ t : Tm, cs = t.cells ∧ t.okM M := by
  obtain ⟨a0, ar0, rfl, sa0, h1⟩ := all_text h0
  clear h0
  obtain ⟨a1, ar1, rfl, sa1, h2⟩ := all_text h1
  clear h1
  obtain ⟨a2, ar2, rfl, sa2, h3⟩ := all_text h2
  clear h2
  obtain ⟨a3, ar3, rfl, sa3, h4⟩ := all_text h3
  clear h3
  obtain ⟨a4, ar4, rfl, h5⟩ := all_bool h4
  clear h4
  obtain ⟨a5, ar5, rfl, sa5, h6⟩ := all_text h5
  clear h5
  obtain ⟨a6, ar6, rfl, sa6, h7⟩ := all_text h6
  clear h6
  obtain ⟨a7, ar7, rfl, sa7, h8⟩ := all_text h7
  clear h7
  obtain ⟨a8, ar8, rfl, sa8, h9⟩ := all_int h8
  clear h8
  obtain ⟨a9, ar9, rfl, sa9, h10⟩ := all_int h9
  clear h9
  obtain ⟨a10, ar10, rfl, sa10, h11⟩ := all_int h10
  clear h10
  obtain ⟨a11, ar11, rfl, sa11, h12⟩ := all_int h11
  clear h11
  obtain rfl := all_nil h12
  exact ⟨⟨a0, a1, a2, a3, a4, a5, a6, a7, a8, a9, a10, a11⟩, rfl, ⟨sa0, sa1, sa2, sa3, sa5, sa6, sa7, sa8, sa9, sa10, sa11⟩⟩
theorem op_of {w : World} {M : Nat} {cs : List Value} (h0 : Sh.all w M opSh cs) : ∃ x : OpR, cs = x.cells ∧ x.ok w w.heap.size M := by
  obtain ⟨i0, r0, rfl, s0, h1⟩ := all_int h0
  clear h0
  obtain ⟨i1, r1, rfl, s1, h2⟩ := all_int h1
  clear h1
  obtain ⟨i2, r2, rfl, s2, h3⟩ := all_int h2
  clear h2
  obtain ⟨i3, r3, rfl, s3, h4⟩ := all_int h3
  clear h3
  obtain ⟨tc, r4, rfl, ht, h5⟩ := all_split termSh _ _ h4
  clear h4
  obtain ⟨t, rfl, ht2⟩ := tm_ofW ht
  obtain ⟨b0, r5, rfl, h6⟩ := all_bool h5
  clear h5
  obtain ⟨b1, r6, rfl, h7⟩ := all_bool h6
  clear h6
  obtain ⟨p, r7, rfl, sp, h8⟩ := all_text h7
  clear h7
  obtain ⟨l, r8, rfl, hl, _, h9⟩ := all_irow h8
  clear h8
  obtain rfl := all_nil h9
  exact ⟨⟨i0, i1, i2, i3, t, b0, b1, p, l⟩, rfl, ⟨s0, s1, s2, s3, ht2, hl⟩⟩
theorem ops_of {w : World} {M : Nat} : ∀ (xss : List (List Value)), (∀ x ∈ xss, Sh.all w M opSh x) → ∃ os : List OpR, xss = os.map OpR.cells ∧ ∀ o ∈ os, o.ok w w.heap.size M
  | [], _ => ⟨[], rfl, by simp⟩
  | x :: xss, h => by
    obtain ⟨os, rfl, h2⟩ := ops_of xss (fun y hy => h y (by simp [hy]))
    obtain ⟨o, rfl, ho⟩ := op_of (h x (by simp))
    refine ⟨o :: os, rfl, fun y hy => ?_⟩
    rcases List.mem_cons.1 hy with rfl | hy
    · exact ho
    · exact h2 y hy
theorem op_len (os : List OpR) : ∀ y ∈ os.map OpR.cells, y.length = 20 := by
  intro y hy
  obtain ⟨o, _, rfl⟩ := List.mem_map.1 hy
  rfl
/-- a list of them -/
structure Ops (w : World) (A : Option Addr) (n M : Nat) (os : List OpR) : Prop where
  rd : Reads w w.heap.size 20 A n (os.map OpR.cells).flatten
  len : os.length = n
  ok : ∀ o ∈ os, o.ok w w.heap.size M
  max : n ≤ maxLen
theorem OpR.ok.at_ {w w' : World} {M : Nat} {o : OpR} (h : o.ok w w.heap.size M) (hb : Below w.heap.size w w') : o.ok w' w'.heap.size M :=
  ⟨h.kind, h.a, h.b, h.c, h.t, ⟨(h.l.1.below hb).more hb.size, h.l.2⟩⟩
theorem Ops.at_ {w w' : World} {A : Option Addr} {n M : Nat} {os : List OpR} (h : Ops w A n M os) (hb : Below w.heap.size w w') : Ops w' A n M os :=
  ⟨(h.rd.below hb).more hb.size, h.len, fun o ho => (h.ok o ho).at_ hb, h.max⟩
set_option maxRecDepth 100000 in
theorem open_op {H : Type} {enc : TypeId × Value → H} {w : World} {r : Reach} {b0 M : Nat} {v : Value} {d : DataW H} {p : List MemPlace} (hv : Value.okWide Try.prog w r b0 55 v) (h : DataW.Trod enc Try.prog w 0 (fun _ => true) true 55 v d p) (hw : maxLen ≤ M ∨ ∀ m ∈ d.weights Try.prog 55, m ≤ M) :
    ∃ x : OpR, v = x.val ∧ x.ok w w.heap.size M := by
  obtain ⟨cs, rfl, h1⟩ := open_structW Try.underlying55 op_sh hv h hw
  obtain ⟨x, rfl, hx⟩ := op_of h1
  exact ⟨x, rfl, hx⟩
set_option maxRecDepth 100000 in
theorem open_ops {H : Type} {enc : TypeId × Value → H} {w : World} {r : Reach} {b0 M : Nat} {v : Value} {d : DataW H} {p : List MemPlace} (hv : Value.okWide Try.prog w r b0 52 v) (h : DataW.Trod enc Try.prog w 0 (fun _ => true) true 52 v d p) (hw : maxLen ≤ M ∨ ∀ m ∈ d.weights Try.prog 52, m ≤ M) :
    ∃ A n c os, v = .slice A n c ∧ Ops w A n M os := by
  obtain ⟨A, n, c, xss, rfl, h1, h2, h3, h4, h5, h6⟩ := open_rowsW (n0 := 6) Try.underlying52 (by kernel_rfl) hv h hw
  obtain ⟨os, rfl, hos⟩ := ops_of xss h5
  exact ⟨A, n, c, os, rfl, h1, by simpa using h4, hos, by omega⟩
end Go.Proofs.Ytodjhkmbgennaaa
