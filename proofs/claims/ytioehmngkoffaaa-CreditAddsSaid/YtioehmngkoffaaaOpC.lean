/-
  complinelaw21.Op: its cells, and what is known of one, and of a list of them, that was handed in.
-/
import Derived.Test.YtioehmngkoffaaaProg
import Derived.Test.YtioehmngkoffaaaOpGW
import Derived.Test.YtioehmngkoffaaaCrAP
namespace Go.Proofs.Ytioehmngkoffaaa
open Go.ChangeShapes Go.WideShapes Go.ChangeAt Go.RowKit
/-- a row of pledges that was handed in -/
structure PRow where
  A : Option Addr
  n : Nat
  c : Nat
  ps : List Pl
structure PRow.ok (w : World) (M : Nat) (r : PRow) : Prop where
  rd : Reads w w.heap.size 2 r.A r.n (plV r.ps)
  len : r.ps.length = r.n
  i64 : ∀ p ∈ r.ps, Is64 p.qty ∧ p.asset.size ≤ M
  nil : r.A = none → r.n = 0 ∧ r.c = 0
structure OpC where
  kind : Int
  n : Int
  party : ByteArray
  acc : ByteArray
  cc : ByteArray
  p : PRow
def OpC.cells (o : OpC) : List Value := [.int .i64 o.kind, .int .i64 o.n, .string o.party, .string o.acc, .string o.cc, .slice o.p.A o.p.n o.p.c]
structure OpC.ok (w : World) (M : Nat) (o : OpC) : Prop where
  kind : Is64 o.kind
  n : Is64 o.n
  party : o.party.size ≤ M
  acc : o.acc.size ≤ M
  cc : o.cc.size ≤ M
  p : o.p.ok w M
def opCSh : List Sh := [.int, .int, .text, .text, .text, .rows [.text, .int]]
theorem all_pls {w : World} {M : Nat} : ∀ (xss : List (List Value)), (∀ x ∈ xss, Sh.all w M [.text, .int] x) → ∃ ps : List Pl, xss.flatten = plV ps ∧ ps.length = xss.length ∧ ∀ p ∈ ps, Is64 p.qty ∧ p.asset.size ≤ M
  | [], _ => ⟨[], rfl, rfl, by simp⟩
  | x :: xss, h => by
    obtain ⟨ps, h1, h2, h3⟩ := all_pls xss (fun y hy => h y (by simp [hy]))
    obtain ⟨s, vs, hx, hs, hn⟩ := all_text (h x (by simp))
    obtain ⟨z, vs2, hx2, hz, hn2⟩ := all_int hn
    rw [all_nil hn2] at hx2
    refine ⟨⟨s, z⟩ :: ps, by rw [List.flatten_cons, hx, hx2, h1]; rfl, by simp [h2], fun i hi => ?_⟩
    rcases List.mem_cons.1 hi with rfl | hi
    · exact ⟨hz, hs⟩
    · exact h3 i hi
theorem all_prow {w : World} {M : Nat} {ks : List Sh} {cs : List Value} (h : Sh.all w M (.rows [.text, .int] :: ks) cs) : ∃ (r : PRow) (vs : List Value), cs = .slice r.A r.n r.c :: vs ∧ r.ok w M ∧ Sh.all w M ks vs := by
  obtain ⟨v, vs, rfl, h1, h2⟩ := all_cons h
  simp only [Sh.fits] at h1
  obtain ⟨A, n, c, xss, rfl, hrd, hnc, hc, hl, hx, hA⟩ := h1
  obtain ⟨ps, e1, e2, e3⟩ := all_pls xss hx
  rw [e1] at hrd
  exact ⟨⟨A, n, c, ps⟩, vs, rfl, ⟨hrd, by show ps.length = n; omega, e3, hA⟩, h2⟩
theorem opC_of {w : World} {M : Nat} {cs : List Value} (h0 : Sh.all w M opCSh cs) : ∃ x : OpC, cs = x.cells ∧ x.ok w M := by
  obtain ⟨i0, r0, rfl, s0, h1⟩ := all_int h0
  obtain ⟨i1, r1, rfl, s1, h2⟩ := all_int h1
  obtain ⟨t2, r2, rfl, s2, h3⟩ := all_text h2
  obtain ⟨t3, r3, rfl, s3, h4⟩ := all_text h3
  obtain ⟨t4, r4, rfl, s4, h5⟩ := all_text h4
  obtain ⟨l, r5, rfl, hl, h6⟩ := all_prow h5
  obtain rfl := all_nil h6
  exact ⟨⟨i0, i1, t2, t3, t4, l⟩, rfl, ⟨s0, s1, s2, s3, s4, hl⟩⟩
theorem opCs_of {w : World} {M : Nat} : ∀ (xss : List (List Value)), (∀ x ∈ xss, Sh.all w M opCSh x) → ∃ os : List OpC, xss = os.map OpC.cells ∧ ∀ o ∈ os, o.ok w M
  | [], _ => ⟨[], rfl, by simp⟩
  | x :: xss, h => by
    obtain ⟨os, rfl, h2⟩ := opCs_of xss (fun y hy => h y (by simp [hy]))
    obtain ⟨o, rfl, ho⟩ := opC_of (h x (by simp))
    refine ⟨o :: os, rfl, fun y hy => ?_⟩
    rcases List.mem_cons.1 hy with rfl | hy
    · exact ho
    · exact h2 y hy
theorem opC_len (os : List OpC) : ∀ y ∈ os.map OpC.cells, y.length = 6 := by
  intro y hy
  obtain ⟨o, _, rfl⟩ := List.mem_map.1 hy
  rfl
/-- a list of them -/
structure OpCs (w : World) (M : Nat) (A : Option Addr) (n : Nat) (os : List OpC) : Prop where
  rd : Reads w w.heap.size 6 A n (os.map OpC.cells).flatten
  len : os.length = n
  ok : ∀ o ∈ os, o.ok w M
  max : n ≤ maxLen
set_option maxRecDepth 100000 in
theorem open_opC {H : Type} {enc : TypeId × Value → H} {w : World} {r : Reach} {b0 : Nat} {v : Value} {d : DataW H} {p : List MemPlace} {M : Nat} (hv : Value.okWide Try.prog w r b0 28 v) (h : DataW.Trod enc Try.prog w 0 (fun _ => true) true 28 v d p) (hw : maxLen ≤ M ∨ ∀ m ∈ d.weights Try.prog 28, m ≤ M) :
    ∃ o : OpC, v = .agg o.cells.toArray ∧ o.ok w M := by
  obtain ⟨cs, rfl, h1⟩ := open_structW (n0 := 6) (M := M) (ks := opCSh) Try.underlying28 (by kernel_rfl) hv h hw
  obtain ⟨o, rfl, ho⟩ := opC_of h1
  exact ⟨o, rfl, ho⟩
set_option maxRecDepth 100000 in
theorem open_opCs {H : Type} {enc : TypeId × Value → H} {w : World} {r : Reach} {b0 : Nat} {v : Value} {d : DataW H} {p : List MemPlace} {M : Nat} (hv : Value.okWide Try.prog w r b0 22 v) (h : DataW.Trod enc Try.prog w 0 (fun _ => true) true 22 v d p) (hw : maxLen ≤ M ∨ ∀ m ∈ d.weights Try.prog 22, m ≤ M) :
    ∃ A n c os, v = .slice A n c ∧ OpCs w M A n os := by
  obtain ⟨A, n, c, xss, rfl, h1, h2, h3, h4, h5, _⟩ := open_rowsW (n0 := 6) (M := M) (ks := opCSh) Try.underlying22 (by kernel_rfl) hv h hw
  obtain ⟨os, rfl, hos⟩ := opCs_of xss h5
  exact ⟨A, n, c, os, rfl, h1, by simpa using h4, hos, by omega⟩
end Go.Proofs.Ytioehmngkoffaaa
