/-
  No cell of these rows narrows 'for every input' (looked for: loops, veiled, ifaces, maps, wideKeys, modest, calm, conditions, laid).
  DERIVED. THE GIVEN ROWS OF THIS SEAT. 4 by the template 'for every input the law returns true; each argument reads behind the call as it read before'; 0 by the template 'total and deterministic' (their statements: YtnekdddcpiiogaaTotals.lean).
  GIVEN WITH THE SEED: the statements are not yours to turn. If you find one false, say at which input.
  Laid BY PROGRAM, IN A SANDBOX (cutbox-rows.mjs): the forced cells as the released guide's own fill.sh prints them over the translation d26547423f70afbe… (all of the seat's roots in one cut). By AI agents, Wed Nov 11 2026. No macro, syntax, notation, axiom, sorry.
-/
import Derived.Test.YtnekdddcpiiogaaChecked
import GoSem.Claim
import GoSem.ClaimJoined
import GoSem.ClaimMapViews
import Derived.JoinedTies
import Derived.KernelRfl
namespace Go.Proofs.Ytnekdddcpiiogaa
/- THE CELL 'sum', in the pinned program and in every row, IS THE sha256 OF THE DUMP (.gsa) THAT YtnekdddcpiiogaaProg.lean LOADS. Nothing in Lean hashes anything: it is a label: what it is worth is what the hold of that sum in a sandbox is worth. -/
noncomputable def Try.pinned : Pinned := { name := "ytnekdddcpiiogaa", sum := "d26547423f70afbe9ebdf48bb192c63d82c2d01c9336dc5934bf3a85a076f951", checked := Try.checked }
namespace Rows
def none {H : Type} : Left H := { results := [], args := [] }

/-- 'complinelaw17.UfJoins': WHATEVER THE INPUT: true; the input reads as it did. -/
def ufJoinsSpec : ChangeSpec := { name := "ufJoins", fn := fun _ => fun
  | [d1, d2] => { results := [.lit (.bool true)], args := [d1, d2] }
  | _ => none }
def ufJoinsRow : OpenClaim := { program := "ytnekdddcpiiogaa", sum := "d26547423f70afbe9ebdf48bb192c63d82c2d01c9336dc5934bf3a85a076f951", func := "compline/complinelaw17.UfJoins", spec := "ufJoins", apart := false }
def UfJoinsSaid : Prop := ufJoinsRow.holds Try.pinned (OpenSpec.ofChange ufJoinsSpec)

/-- ITS FALSE NEIGHBOUR: 'it returns false'. Refute it at one input. -/
def ufJoinsWrong : ChangeSpec := { name := "ufJoins", fn := fun _ => fun
  | [d1, d2] => { results := [.lit (.bool false)], args := [d1, d2] }
  | _ => none }
def UfJoinsWrongFalsely : Prop := ufJoinsRow.holds Try.pinned (OpenSpec.ofChange ufJoinsWrong)

/-- 'complinelaw17.UfHeads': WHATEVER THE INPUT: true; the input reads as it did. -/
def ufHeadsSpec : ChangeSpec := { name := "ufHeads", fn := fun _ => fun
  | [d1, d2, d3] => { results := [.lit (.bool true)], args := [d1, d2, d3] }
  | _ => none }
def ufHeadsRow : OpenClaim := { program := "ytnekdddcpiiogaa", sum := "d26547423f70afbe9ebdf48bb192c63d82c2d01c9336dc5934bf3a85a076f951", func := "compline/complinelaw17.UfHeads", spec := "ufHeads", apart := false }
def UfHeadsSaid : Prop := ufHeadsRow.holds Try.pinned (OpenSpec.ofChange ufHeadsSpec)

/-- ITS FALSE NEIGHBOUR: 'it returns false'. Refute it at one input. -/
def ufHeadsWrong : ChangeSpec := { name := "ufHeads", fn := fun _ => fun
  | [d1, d2, d3] => { results := [.lit (.bool false)], args := [d1, d2, d3] }
  | _ => none }
def UfHeadsWrongFalsely : Prop := ufHeadsRow.holds Try.pinned (OpenSpec.ofChange ufHeadsWrong)

/-- 'complinelaw17.UfNone': WHATEVER THE INPUT: true; the input reads as it did. -/
def ufNoneSpec : ChangeSpec := { name := "ufNone", fn := fun _ => fun
  | [d] => { results := [.lit (.bool true)], args := [d] }
  | _ => none }
def ufNoneRow : OpenClaim := { program := "ytnekdddcpiiogaa", sum := "d26547423f70afbe9ebdf48bb192c63d82c2d01c9336dc5934bf3a85a076f951", func := "compline/complinelaw17.UfNone", spec := "ufNone", apart := false }
def UfNoneSaid : Prop := ufNoneRow.holds Try.pinned (OpenSpec.ofChange ufNoneSpec)

/-- ITS FALSE NEIGHBOUR: 'it returns false'. Refute it at one input. -/
def ufNoneWrong : ChangeSpec := { name := "ufNone", fn := fun _ => fun
  | [d] => { results := [.lit (.bool false)], args := [d] }
  | _ => none }
def UfNoneWrongFalsely : Prop := ufNoneRow.holds Try.pinned (OpenSpec.ofChange ufNoneWrong)

/-- 'complinelaw17.UfGrows': WHATEVER THE INPUT: true; the input reads as it did. -/
def ufGrowsSpec : ChangeSpec := { name := "ufGrows", fn := fun _ => fun
  | [d1, d2, d3] => { results := [.lit (.bool true)], args := [d1, d2, d3] }
  | _ => none }
def ufGrowsRow : OpenClaim := { program := "ytnekdddcpiiogaa", sum := "d26547423f70afbe9ebdf48bb192c63d82c2d01c9336dc5934bf3a85a076f951", func := "compline/complinelaw17.UfGrows", spec := "ufGrows", apart := false }
def UfGrowsSaid : Prop := ufGrowsRow.holds Try.pinned (OpenSpec.ofChange ufGrowsSpec)

/-- ITS FALSE NEIGHBOUR: 'it returns false'. Refute it at one input. -/
def ufGrowsWrong : ChangeSpec := { name := "ufGrows", fn := fun _ => fun
  | [d1, d2, d3] => { results := [.lit (.bool false)], args := [d1, d2, d3] }
  | _ => none }
def UfGrowsWrongFalsely : Prop := ufGrowsRow.holds Try.pinned (OpenSpec.ofChange ufGrowsWrong)

/- THE SECOND FORM. 'bulk': how many values and letters a reading holds, each counted each time it is reached (what is shared counts as often as it is met; a slice's spare places count too). A statement '..UptoSaid' is the law's where the arguments, and the package variables that the reading takes, are together of bulk at most 1048576: NARROWER than '..Said'. Prove '..Said' where nothing that the law and all that it calls make is longer than what came in: it says more and counts as full. Else prove '..UptoSaid'. A law counts once. -/
mutual
def uptoBulk {H : Type} : DataW H → Nat
  | .lit (.string bytes) => bytes.length + 1
  | .lit _ => 1
  | .nil => 1
  | .ptr d => uptoBulk d + 1
  | .slice elems spare => uptoBulkAll elems + uptoBulkAll spare + 1
  | .agg parts => uptoBulkAll parts + 1
  | .iface _ d => uptoBulk d + 1
  | .map entries => uptoBulkEntries entries + 1
  | .held _ => 1
def uptoBulkAll {H : Type} : List (DataW H) → Nat
  | [] => 0
  | d :: r => uptoBulk d + uptoBulkAll r
def uptoBulkEntries {H : Type} : List (Lit × DataW H) → Nat
  | [] => 0
  | x :: r => uptoBulkEntry x + uptoBulkEntries r
def uptoBulkEntry {H : Type} : Lit × DataW H → Nat
  | (.string bytes, d) => bytes.length + uptoBulk d + 1
  | (_, d) => uptoBulk d + 1
 end
def uptoSmall : (H : Type) → List (DataW H) → Bool := fun _ ds => decide (uptoBulkAll ds ≤ 1048576)
def OpenSpec.upto (s : _root_.Go.ChangeSpec) : _root_.Go.OpenSpec := { _root_.Go.OpenSpec.ofChange s with cond := some uptoSmall }

/-- 'complinelaw17.UfJoins', WHERE WHAT IT READS IS OF BULK AT MOST 1048576: true; the input reads as it did. -/
def ufJoinsUptoRow : OpenClaim := { program := "ytnekdddcpiiogaa", sum := "d26547423f70afbe9ebdf48bb192c63d82c2d01c9336dc5934bf3a85a076f951", func := "compline/complinelaw17.UfJoins", spec := "ufJoins", apart := false, narrowed := true }
def UfJoinsUptoSaid : Prop := ufJoinsUptoRow.holds Try.pinned (OpenSpec.upto ufJoinsSpec)

/-- 'complinelaw17.UfHeads', WHERE WHAT IT READS IS OF BULK AT MOST 1048576: true; the input reads as it did. -/
def ufHeadsUptoRow : OpenClaim := { program := "ytnekdddcpiiogaa", sum := "d26547423f70afbe9ebdf48bb192c63d82c2d01c9336dc5934bf3a85a076f951", func := "compline/complinelaw17.UfHeads", spec := "ufHeads", apart := false, narrowed := true }
def UfHeadsUptoSaid : Prop := ufHeadsUptoRow.holds Try.pinned (OpenSpec.upto ufHeadsSpec)

/-- 'complinelaw17.UfNone', WHERE WHAT IT READS IS OF BULK AT MOST 1048576: true; the input reads as it did. -/
def ufNoneUptoRow : OpenClaim := { program := "ytnekdddcpiiogaa", sum := "d26547423f70afbe9ebdf48bb192c63d82c2d01c9336dc5934bf3a85a076f951", func := "compline/complinelaw17.UfNone", spec := "ufNone", apart := false, narrowed := true }
def UfNoneUptoSaid : Prop := ufNoneUptoRow.holds Try.pinned (OpenSpec.upto ufNoneSpec)

/-- 'complinelaw17.UfGrows', WHERE WHAT IT READS IS OF BULK AT MOST 1048576: true; the input reads as it did. -/
def ufGrowsUptoRow : OpenClaim := { program := "ytnekdddcpiiogaa", sum := "d26547423f70afbe9ebdf48bb192c63d82c2d01c9336dc5934bf3a85a076f951", func := "compline/complinelaw17.UfGrows", spec := "ufGrows", apart := false, narrowed := true }
def UfGrowsUptoSaid : Prop := ufGrowsUptoRow.holds Try.pinned (OpenSpec.upto ufGrowsSpec)

end Rows
end Go.Proofs.Ytnekdddcpiiogaa
