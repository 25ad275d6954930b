/-
  No cell of these rows narrows 'for every input' (looked for: loops, veiled, ifaces, maps, wideKeys, modest, calm, conditions, laid).
  DERIVED. THE GIVEN ROWS OF THIS SEAT. 3 by the template 'for every input the law returns true; each argument reads behind the call as it read before'; 0 by the template 'total and deterministic' (their statements: YtnojkclgjinjhaaTotals.lean).
  GIVEN WITH THE SEED: the statements are not yours to turn. If you find one false, say at which input.
  Laid BY PROGRAM, IN A SANDBOX (cutbox-rows.mjs): the forced cells as the released guide's own fill.sh prints them over the translation 7f70f58b5fe3bf27… (all of the seat's roots in one cut). By AI agents, Wed Nov 11 2026. No macro, syntax, notation, axiom, sorry.
-/
import Derived.Test.YtnojkclgjinjhaaChecked
import GoSem.Claim
import GoSem.ClaimJoined
import GoSem.ClaimMapViews
import Derived.JoinedTies
import Derived.KernelRfl
namespace Go.Proofs.Ytnojkclgjinjhaa
/- THE CELL 'sum', in the pinned program and in every row, IS THE sha256 OF THE DUMP (.gsa) THAT YtnojkclgjinjhaaProg.lean LOADS. Nothing in Lean hashes anything: it is a label: what it is worth is what the hold of that sum in a sandbox is worth. -/
noncomputable def Try.pinned : Pinned := { name := "ytnojkclgjinjhaa", sum := "7f70f58b5fe3bf27d4151e757720beac9587ea2f577895f233f06338e4ce2cae", checked := Try.checked }
namespace Rows
def none {H : Type} : Left H := { results := [], args := [] }

/-- 'complinelaw16.AllegNear': WHATEVER THE INPUT: true; the input reads as it did. -/
def allegNearSpec : ChangeSpec := { name := "allegNear", fn := fun _ => fun
  | [d1, d2] => { results := [.lit (.bool true)], args := [d1, d2] }
  | _ => none }
def allegNearRow : OpenClaim := { program := "ytnojkclgjinjhaa", sum := "7f70f58b5fe3bf27d4151e757720beac9587ea2f577895f233f06338e4ce2cae", func := "compline/complinelaw16.AllegNear", spec := "allegNear", unfollowed := true, recurses := true, apart := false }
def AllegNearSaid : Prop := allegNearRow.holds Try.pinned (OpenSpec.ofChange allegNearSpec)

/-- ITS FALSE NEIGHBOUR: 'it returns false'. Refute it at one input. -/
def allegNearWrong : ChangeSpec := { name := "allegNear", fn := fun _ => fun
  | [d1, d2] => { results := [.lit (.bool false)], args := [d1, d2] }
  | _ => none }
def AllegNearWrongFalsely : Prop := allegNearRow.holds Try.pinned (OpenSpec.ofChange allegNearWrong)

/-- 'complinelaw15.MatchPairs': WHATEVER THE INPUT: true; the input reads as it did. -/
def matchPairsSpec : ChangeSpec := { name := "matchPairs", fn := fun _ => fun
  | [d] => { results := [.lit (.bool true)], args := [d] }
  | _ => none }
def matchPairsRow : OpenClaim := { program := "ytnojkclgjinjhaa", sum := "7f70f58b5fe3bf27d4151e757720beac9587ea2f577895f233f06338e4ce2cae", func := "compline/complinelaw15.MatchPairs", spec := "matchPairs", inPlace := ["maps.clone"], unfollowed := true, recurses := true, apart := false }
def MatchPairsSaid : Prop := matchPairsRow.holds Try.pinned (OpenSpec.ofChange matchPairsSpec)

/-- ITS FALSE NEIGHBOUR: 'it returns false'. Refute it at one input. -/
def matchPairsWrong : ChangeSpec := { name := "matchPairs", fn := fun _ => fun
  | [d] => { results := [.lit (.bool false)], args := [d] }
  | _ => none }
def MatchPairsWrongFalsely : Prop := matchPairsRow.holds Try.pinned (OpenSpec.ofChange matchPairsWrong)

/-- 'complinelaw15.MatchAlone': WHATEVER THE INPUT: true; the input reads as it did. -/
def matchAloneSpec : ChangeSpec := { name := "matchAlone", fn := fun _ => fun
  | [d] => { results := [.lit (.bool true)], args := [d] }
  | _ => none }
def matchAloneRow : OpenClaim := { program := "ytnojkclgjinjhaa", sum := "7f70f58b5fe3bf27d4151e757720beac9587ea2f577895f233f06338e4ce2cae", func := "compline/complinelaw15.MatchAlone", spec := "matchAlone", inPlace := ["maps.clone"], unfollowed := true, recurses := true, apart := false }
def MatchAloneSaid : Prop := matchAloneRow.holds Try.pinned (OpenSpec.ofChange matchAloneSpec)

/-- ITS FALSE NEIGHBOUR: 'it returns false'. Refute it at one input. -/
def matchAloneWrong : ChangeSpec := { name := "matchAlone", fn := fun _ => fun
  | [d] => { results := [.lit (.bool false)], args := [d] }
  | _ => none }
def MatchAloneWrongFalsely : Prop := matchAloneRow.holds Try.pinned (OpenSpec.ofChange matchAloneWrong)

/- THE SECOND FORM. 'bulk': how many values and letters a reading holds, each counted each time it is reached (what is shared counts as often as it is met; a slice's spare places count too). A statement '..UptoSaid' is the law's where the arguments, and the package variables that the reading takes, are together of bulk at most 1048576: NARROWER than '..Said'. Prove '..Said' where nothing that the law and all that it calls make is longer than what came in: it says more and counts as full. Else prove '..UptoSaid'. A law counts once. -/
mutual
def uptoBulk {H : Type} : DataW H → Nat
  | .lit (.string bytes) => bytes.length + 1
  | .lit _ => 1
  | .nil => 1
  | .ptr d => uptoBulk d + 1
  | .slice elems spare => uptoBulkAll elems + uptoBulkAll spare + 1
  | .agg parts => uptoBulkAll parts + 1
  | .iface _ d => uptoBulk d + 1
  | .map entries => uptoBulkEntries entries + 1
  | .held _ => 1
def uptoBulkAll {H : Type} : List (DataW H) → Nat
  | [] => 0
  | d :: r => uptoBulk d + uptoBulkAll r
def uptoBulkEntries {H : Type} : List (Lit × DataW H) → Nat
  | [] => 0
  | x :: r => uptoBulkEntry x + uptoBulkEntries r
def uptoBulkEntry {H : Type} : Lit × DataW H → Nat
  | (.string bytes, d) => bytes.length + uptoBulk d + 1
  | (_, d) => uptoBulk d + 1
 end
def uptoSmall : (H : Type) → List (DataW H) → Bool := fun _ ds => decide (uptoBulkAll ds ≤ 1048576)
def OpenSpec.upto (s : _root_.Go.ChangeSpec) : _root_.Go.OpenSpec := { _root_.Go.OpenSpec.ofChange s with cond := some uptoSmall }

/-- 'complinelaw16.AllegNear', WHERE WHAT IT READS IS OF BULK AT MOST 1048576: true; the input reads as it did. -/
def allegNearUptoRow : OpenClaim := { program := "ytnojkclgjinjhaa", sum := "7f70f58b5fe3bf27d4151e757720beac9587ea2f577895f233f06338e4ce2cae", func := "compline/complinelaw16.AllegNear", spec := "allegNear", unfollowed := true, recurses := true, apart := false, narrowed := true }
def AllegNearUptoSaid : Prop := allegNearUptoRow.holds Try.pinned (OpenSpec.upto allegNearSpec)

/-- 'complinelaw15.MatchPairs', WHERE WHAT IT READS IS OF BULK AT MOST 1048576: true; the input reads as it did. -/
def matchPairsUptoRow : OpenClaim := { program := "ytnojkclgjinjhaa", sum := "7f70f58b5fe3bf27d4151e757720beac9587ea2f577895f233f06338e4ce2cae", func := "compline/complinelaw15.MatchPairs", spec := "matchPairs", inPlace := ["maps.clone"], unfollowed := true, recurses := true, apart := false, narrowed := true }
def MatchPairsUptoSaid : Prop := matchPairsUptoRow.holds Try.pinned (OpenSpec.upto matchPairsSpec)

/-- 'complinelaw15.MatchAlone', WHERE WHAT IT READS IS OF BULK AT MOST 1048576: true; the input reads as it did. -/
def matchAloneUptoRow : OpenClaim := { program := "ytnojkclgjinjhaa", sum := "7f70f58b5fe3bf27d4151e757720beac9587ea2f577895f233f06338e4ce2cae", func := "compline/complinelaw15.MatchAlone", spec := "matchAlone", inPlace := ["maps.clone"], unfollowed := true, recurses := true, apart := false, narrowed := true }
def MatchAloneUptoSaid : Prop := matchAloneUptoRow.holds Try.pinned (OpenSpec.upto matchAloneSpec)

end Rows
end Go.Proofs.Ytnojkclgjinjhaa
