/-
  No cell of these rows narrows 'for every input' (looked for: loops, veiled, ifaces, maps, wideKeys, modest, calm, conditions, laid).
  DERIVED. THE GIVEN ROWS OF THIS SEAT. 3 by the template 'for every input the law returns true; each argument reads behind the call as it read before'; 0 by the template 'total and deterministic' (their statements: YtioehmngkoffaaaTotals.lean).
  GIVEN WITH THE SEED: the statements are not yours to turn. If you find one false, say at which input.
  Laid BY PROGRAM, IN A SANDBOX (cutbox-rows.mjs): the forced cells as the released guide's own fill.sh prints them over the translation 56036b7fbd84d3b5… (all of the seat's roots in one cut). By AI agents, Wed Nov 11 2026. No macro, syntax, notation, axiom, sorry.
-/
import Derived.Test.YtioehmngkoffaaaChecked
import GoSem.Claim
import GoSem.ClaimJoined
import GoSem.ClaimMapViews
import Derived.JoinedTies
import Derived.KernelRfl
namespace Go.Proofs.Ytioehmngkoffaaa
/- THE CELL 'sum', in the pinned program and in every row, IS THE sha256 OF THE DUMP (.gsa) THAT YtioehmngkoffaaaProg.lean LOADS. Nothing in Lean hashes anything: it is a label: what it is worth is what the hold of that sum in a sandbox is worth. -/
noncomputable def Try.pinned : Pinned := { name := "ytioehmngkoffaaa", sum := "56036b7fbd84d3b55e68a847109fd296135c4497582727b53513528c9dfd5661", checked := Try.checked }
namespace Rows
def none {H : Type} : Left H := { results := [], args := [] }

/-- 'complinelaw21.CreditApart': WHATEVER THE INPUT: true; the input reads as it did. -/
def creditApartSpec : ChangeSpec := { name := "creditApart", fn := fun _ => fun
  | [d] => { results := [.lit (.bool true)], args := [d] }
  | _ => none }
def creditApartRow : OpenClaim := { program := "ytioehmngkoffaaa", sum := "56036b7fbd84d3b55e68a847109fd296135c4497582727b53513528c9dfd5661", func := "compline/complinelaw21.CreditApart", spec := "creditApart", inPlace := ["math/bits.Add64"], unfollowed := true, recurses := true, plainKeys := false, apart := false }
def CreditApartSaid : Prop := creditApartRow.holds Try.pinned (OpenSpec.ofChange creditApartSpec)

/-- ITS FALSE NEIGHBOUR: 'it returns false'. Refute it at one input. -/
def creditApartWrong : ChangeSpec := { name := "creditApart", fn := fun _ => fun
  | [d] => { results := [.lit (.bool false)], args := [d] }
  | _ => none }
def CreditApartWrongFalsely : Prop := creditApartRow.holds Try.pinned (OpenSpec.ofChange creditApartWrong)

/-- 'complinelaw21.CreditNone': WHATEVER THE INPUT: true; the input reads as it did. -/
def creditNoneSpec : ChangeSpec := { name := "creditNone", fn := fun _ => fun
  | [d] => { results := [.lit (.bool true)], args := [d] }
  | _ => none }
def creditNoneRow : OpenClaim := { program := "ytioehmngkoffaaa", sum := "56036b7fbd84d3b55e68a847109fd296135c4497582727b53513528c9dfd5661", func := "compline/complinelaw21.CreditNone", spec := "creditNone", inPlace := ["math/bits.Add64"], unfollowed := true, recurses := true, plainKeys := false, apart := false }
def CreditNoneSaid : Prop := creditNoneRow.holds Try.pinned (OpenSpec.ofChange creditNoneSpec)

/-- ITS FALSE NEIGHBOUR: 'it returns false'. Refute it at one input. -/
def creditNoneWrong : ChangeSpec := { name := "creditNone", fn := fun _ => fun
  | [d] => { results := [.lit (.bool false)], args := [d] }
  | _ => none }
def CreditNoneWrongFalsely : Prop := creditNoneRow.holds Try.pinned (OpenSpec.ofChange creditNoneWrong)

/-- 'complinelaw21.CreditAdds': WHATEVER THE INPUT: true; the input reads as it did. -/
def creditAddsSpec : ChangeSpec := { name := "creditAdds", fn := fun _ => fun
  | [d] => { results := [.lit (.bool true)], args := [d] }
  | _ => none }
def creditAddsRow : OpenClaim := { program := "ytioehmngkoffaaa", sum := "56036b7fbd84d3b55e68a847109fd296135c4497582727b53513528c9dfd5661", func := "compline/complinelaw21.CreditAdds", spec := "creditAdds", inPlace := ["math/bits.Add64"], unfollowed := true, recurses := true, plainKeys := false, apart := false }
def CreditAddsSaid : Prop := creditAddsRow.holds Try.pinned (OpenSpec.ofChange creditAddsSpec)

/-- ITS FALSE NEIGHBOUR: 'it returns false'. Refute it at one input. -/
def creditAddsWrong : ChangeSpec := { name := "creditAdds", fn := fun _ => fun
  | [d] => { results := [.lit (.bool false)], args := [d] }
  | _ => none }
def CreditAddsWrongFalsely : Prop := creditAddsRow.holds Try.pinned (OpenSpec.ofChange creditAddsWrong)

/- THE SECOND FORM. 'bulk': how many values and letters a reading holds, each counted each time it is reached (what is shared counts as often as it is met; a slice's spare places count too). A statement '..UptoSaid' is the law's where the arguments, and the package variables that the reading takes, are together of bulk at most 1048576: NARROWER than '..Said'. Prove '..Said' where nothing that the law and all that it calls make is longer than what came in: it says more and counts as full. Else prove '..UptoSaid'. A law counts once. -/
mutual
def uptoBulk {H : Type} : DataW H → Nat
  | .lit (.string bytes) => bytes.length + 1
  | .lit _ => 1
  | .nil => 1
  | .ptr d => uptoBulk d + 1
  | .slice elems spare => uptoBulkAll elems + uptoBulkAll spare + 1
  | .agg parts => uptoBulkAll parts + 1
  | .iface _ d => uptoBulk d + 1
  | .map entries => uptoBulkEntries entries + 1
  | .held _ => 1
def uptoBulkAll {H : Type} : List (DataW H) → Nat
  | [] => 0
  | d :: r => uptoBulk d + uptoBulkAll r
def uptoBulkEntries {H : Type} : List (Lit × DataW H) → Nat
  | [] => 0
  | x :: r => uptoBulkEntry x + uptoBulkEntries r
def uptoBulkEntry {H : Type} : Lit × DataW H → Nat
  | (.string bytes, d) => bytes.length + uptoBulk d + 1
  | (_, d) => uptoBulk d + 1
 end
def uptoSmall : (H : Type) → List (DataW H) → Bool := fun _ ds => decide (uptoBulkAll ds ≤ 1048576)
def OpenSpec.upto (s : _root_.Go.ChangeSpec) : _root_.Go.OpenSpec := { _root_.Go.OpenSpec.ofChange s with cond := some uptoSmall }

/-- 'complinelaw21.CreditApart', WHERE WHAT IT READS IS OF BULK AT MOST 1048576: true; the input reads as it did. -/
def creditApartUptoRow : OpenClaim := { program := "ytioehmngkoffaaa", sum := "56036b7fbd84d3b55e68a847109fd296135c4497582727b53513528c9dfd5661", func := "compline/complinelaw21.CreditApart", spec := "creditApart", inPlace := ["math/bits.Add64"], unfollowed := true, recurses := true, plainKeys := false, apart := false, narrowed := true }
def CreditApartUptoSaid : Prop := creditApartUptoRow.holds Try.pinned (OpenSpec.upto creditApartSpec)

/-- 'complinelaw21.CreditNone', WHERE WHAT IT READS IS OF BULK AT MOST 1048576: true; the input reads as it did. -/
def creditNoneUptoRow : OpenClaim := { program := "ytioehmngkoffaaa", sum := "56036b7fbd84d3b55e68a847109fd296135c4497582727b53513528c9dfd5661", func := "compline/complinelaw21.CreditNone", spec := "creditNone", inPlace := ["math/bits.Add64"], unfollowed := true, recurses := true, plainKeys := false, apart := false, narrowed := true }
def CreditNoneUptoSaid : Prop := creditNoneUptoRow.holds Try.pinned (OpenSpec.upto creditNoneSpec)

/-- 'complinelaw21.CreditAdds', WHERE WHAT IT READS IS OF BULK AT MOST 1048576: true; the input reads as it did. -/
def creditAddsUptoRow : OpenClaim := { program := "ytioehmngkoffaaa", sum := "56036b7fbd84d3b55e68a847109fd296135c4497582727b53513528c9dfd5661", func := "compline/complinelaw21.CreditAdds", spec := "creditAdds", inPlace := ["math/bits.Add64"], unfollowed := true, recurses := true, plainKeys := false, apart := false, narrowed := true }
def CreditAddsUptoSaid : Prop := creditAddsUptoRow.holds Try.pinned (OpenSpec.upto creditAddsSpec)

end Rows
end Go.Proofs.Ytioehmngkoffaaa
