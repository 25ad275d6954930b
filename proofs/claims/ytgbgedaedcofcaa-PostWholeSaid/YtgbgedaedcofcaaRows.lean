/-
  No cell of these rows narrows 'for every input' (looked for: loops, veiled, ifaces, maps, wideKeys, modest, calm, conditions, laid).
  DERIVED. THE GIVEN ROWS OF THIS SEAT. 11 by the template 'for every input the law returns true; each argument reads behind the call as it read before'; 0 by the template 'total and deterministic' (their statements: YtgbgedaedcofcaaTotals.lean).
  GIVEN WITH THE SEED: the statements are not yours to turn. If you find one false, say at which input.
  Laid BY PROGRAM, IN A SANDBOX (cutbox-rows.mjs): the forced cells as the released guide's own fill.sh prints them over the translation a0b4c7bf850c64af… (all of the seat's roots in one cut). By AI agents, Wed Nov 11 2026. No macro, syntax, notation, axiom, sorry.
-/
import Derived.Test.YtgbgedaedcofcaaChecked
import GoSem.Claim
import GoSem.ClaimJoined
import GoSem.ClaimMapViews
import Derived.JoinedTies
import Derived.KernelRfl
namespace Go.Proofs.Ytgbgedaedcofcaa
/- THE CELL 'sum', in the pinned program and in every row, IS THE sha256 OF THE DUMP (.gsa) THAT YtgbgedaedcofcaaProg.lean LOADS. Nothing in Lean hashes anything: it is a label: what it is worth is what the hold of that sum in a sandbox is worth. -/
noncomputable def Try.pinned : Pinned := { name := "ytgbgedaedcofcaa", sum := "a0b4c7bf850c64aff5b9f45435e7675747075c27e668168e24f268c439662568", checked := Try.checked }
namespace Rows
def none {H : Type} : Left H := { results := [], args := [] }

/-- 'complinelaw10.PosBack': WHATEVER THE INPUT: true; the input reads as it did. -/
def posBackSpec : ChangeSpec := { name := "posBack", fn := fun _ => fun
  | [d1, d2] => { results := [.lit (.bool true)], args := [d1, d2] }
  | _ => none }
def posBackRow : OpenClaim := { program := "ytgbgedaedcofcaa", sum := "a0b4c7bf850c64aff5b9f45435e7675747075c27e668168e24f268c439662568", func := "compline/complinelaw10.PosBack", spec := "posBack", inPlace := ["math/bits.Add64"], unfollowed := true, recurses := true, plainKeys := false, apart := false }
def PosBackSaid : Prop := posBackRow.holds Try.pinned (OpenSpec.ofChange posBackSpec)

/-- ITS FALSE NEIGHBOUR: 'it returns false'. Refute it at one input. -/
def posBackWrong : ChangeSpec := { name := "posBack", fn := fun _ => fun
  | [d1, d2] => { results := [.lit (.bool false)], args := [d1, d2] }
  | _ => none }
def PosBackWrongFalsely : Prop := posBackRow.holds Try.pinned (OpenSpec.ofChange posBackWrong)

/-- 'complinelaw10.PosRows': WHATEVER THE INPUT: true; the input reads as it did. -/
def posRowsSpec : ChangeSpec := { name := "posRows", fn := fun _ => fun
  | [d1, d2, d3] => { results := [.lit (.bool true)], args := [d1, d2, d3] }
  | _ => none }
def posRowsRow : OpenClaim := { program := "ytgbgedaedcofcaa", sum := "a0b4c7bf850c64aff5b9f45435e7675747075c27e668168e24f268c439662568", func := "compline/complinelaw10.PosRows", spec := "posRows", inPlace := ["math/bits.Add64"], unfollowed := true, recurses := true, plainKeys := false, apart := false }
def PosRowsSaid : Prop := posRowsRow.holds Try.pinned (OpenSpec.ofChange posRowsSpec)

/-- ITS FALSE NEIGHBOUR: 'it returns false'. Refute it at one input. -/
def posRowsWrong : ChangeSpec := { name := "posRows", fn := fun _ => fun
  | [d1, d2, d3] => { results := [.lit (.bool false)], args := [d1, d2, d3] }
  | _ => none }
def PosRowsWrongFalsely : Prop := posRowsRow.holds Try.pinned (OpenSpec.ofChange posRowsWrong)

/-- 'complinelaw10.PosNone': WHATEVER THE INPUT: true; the input reads as it did. -/
def posNoneSpec : ChangeSpec := { name := "posNone", fn := fun _ => fun
  | [d] => { results := [.lit (.bool true)], args := [d] }
  | _ => none }
def posNoneRow : OpenClaim := { program := "ytgbgedaedcofcaa", sum := "a0b4c7bf850c64aff5b9f45435e7675747075c27e668168e24f268c439662568", func := "compline/complinelaw10.PosNone", spec := "posNone", inPlace := ["math/bits.Add64"], unfollowed := true, recurses := true, plainKeys := false, apart := false }
def PosNoneSaid : Prop := posNoneRow.holds Try.pinned (OpenSpec.ofChange posNoneSpec)

/-- ITS FALSE NEIGHBOUR: 'it returns false'. Refute it at one input. -/
def posNoneWrong : ChangeSpec := { name := "posNone", fn := fun _ => fun
  | [d] => { results := [.lit (.bool false)], args := [d] }
  | _ => none }
def PosNoneWrongFalsely : Prop := posNoneRow.holds Try.pinned (OpenSpec.ofChange posNoneWrong)

/-- 'complinelaw10.PosSums': WHATEVER THE INPUT: true; the input reads as it did. -/
def posSumsSpec : ChangeSpec := { name := "posSums", fn := fun _ => fun
  | [d] => { results := [.lit (.bool true)], args := [d] }
  | _ => none }
def posSumsRow : OpenClaim := { program := "ytgbgedaedcofcaa", sum := "a0b4c7bf850c64aff5b9f45435e7675747075c27e668168e24f268c439662568", func := "compline/complinelaw10.PosSums", spec := "posSums", inPlace := ["math/bits.Add64"], unfollowed := true, recurses := true, plainKeys := false, apart := false }
def PosSumsSaid : Prop := posSumsRow.holds Try.pinned (OpenSpec.ofChange posSumsSpec)

/-- ITS FALSE NEIGHBOUR: 'it returns false'. Refute it at one input. -/
def posSumsWrong : ChangeSpec := { name := "posSums", fn := fun _ => fun
  | [d] => { results := [.lit (.bool false)], args := [d] }
  | _ => none }
def PosSumsWrongFalsely : Prop := posSumsRow.holds Try.pinned (OpenSpec.ofChange posSumsWrong)

/-- 'complinelaw11.PostLevel': WHATEVER THE INPUT: true; the input reads as it did. -/
def postLevelSpec : ChangeSpec := { name := "postLevel", fn := fun _ => fun
  | [d1, d2, d3] => { results := [.lit (.bool true)], args := [d1, d2, d3] }
  | _ => none }
def postLevelRow : OpenClaim := { program := "ytgbgedaedcofcaa", sum := "a0b4c7bf850c64aff5b9f45435e7675747075c27e668168e24f268c439662568", func := "compline/complinelaw11.PostLevel", spec := "postLevel", inPlace := ["math/bits.Add64"], unfollowed := true, recurses := true, plainKeys := false, apart := false }
def PostLevelSaid : Prop := postLevelRow.holds Try.pinned (OpenSpec.ofChange postLevelSpec)

/-- ITS FALSE NEIGHBOUR: 'it returns false'. Refute it at one input. -/
def postLevelWrong : ChangeSpec := { name := "postLevel", fn := fun _ => fun
  | [d1, d2, d3] => { results := [.lit (.bool false)], args := [d1, d2, d3] }
  | _ => none }
def PostLevelWrongFalsely : Prop := postLevelRow.holds Try.pinned (OpenSpec.ofChange postLevelWrong)

/-- 'complinelaw11.PostSplits': WHATEVER THE INPUT: true; the input reads as it did. -/
def postSplitsSpec : ChangeSpec := { name := "postSplits", fn := fun _ => fun
  | [d1, d2, d3] => { results := [.lit (.bool true)], args := [d1, d2, d3] }
  | _ => none }
def postSplitsRow : OpenClaim := { program := "ytgbgedaedcofcaa", sum := "a0b4c7bf850c64aff5b9f45435e7675747075c27e668168e24f268c439662568", func := "compline/complinelaw11.PostSplits", spec := "postSplits", inPlace := ["math/bits.Add64"], unfollowed := true, recurses := true, plainKeys := false, apart := false }
def PostSplitsSaid : Prop := postSplitsRow.holds Try.pinned (OpenSpec.ofChange postSplitsSpec)

/-- ITS FALSE NEIGHBOUR: 'it returns false'. Refute it at one input. -/
def postSplitsWrong : ChangeSpec := { name := "postSplits", fn := fun _ => fun
  | [d1, d2, d3] => { results := [.lit (.bool false)], args := [d1, d2, d3] }
  | _ => none }
def PostSplitsWrongFalsely : Prop := postSplitsRow.holds Try.pinned (OpenSpec.ofChange postSplitsWrong)

/-- 'complinelaw11.PostMoves': WHATEVER THE INPUT: true; the input reads as it did. -/
def postMovesSpec : ChangeSpec := { name := "postMoves", fn := fun _ => fun
  | [d1, d2, d3, d4] => { results := [.lit (.bool true)], args := [d1, d2, d3, d4] }
  | _ => none }
def postMovesRow : OpenClaim := { program := "ytgbgedaedcofcaa", sum := "a0b4c7bf850c64aff5b9f45435e7675747075c27e668168e24f268c439662568", func := "compline/complinelaw11.PostMoves", spec := "postMoves", inPlace := ["math/bits.Add64"], unfollowed := true, recurses := true, plainKeys := false, apart := false }
def PostMovesSaid : Prop := postMovesRow.holds Try.pinned (OpenSpec.ofChange postMovesSpec)

/-- ITS FALSE NEIGHBOUR: 'it returns false'. Refute it at one input. -/
def postMovesWrong : ChangeSpec := { name := "postMoves", fn := fun _ => fun
  | [d1, d2, d3, d4] => { results := [.lit (.bool false)], args := [d1, d2, d3, d4] }
  | _ => none }
def PostMovesWrongFalsely : Prop := postMovesRow.holds Try.pinned (OpenSpec.ofChange postMovesWrong)

/-- 'complinelaw11.PostTotals': WHATEVER THE INPUT: true; the input reads as it did. -/
def postTotalsSpec : ChangeSpec := { name := "postTotals", fn := fun _ => fun
  | [d] => { results := [.lit (.bool true)], args := [d] }
  | _ => none }
def postTotalsRow : OpenClaim := { program := "ytgbgedaedcofcaa", sum := "a0b4c7bf850c64aff5b9f45435e7675747075c27e668168e24f268c439662568", func := "compline/complinelaw11.PostTotals", spec := "postTotals", inPlace := ["math/bits.Add64"], unfollowed := true, recurses := true, plainKeys := false, apart := false }
def PostTotalsSaid : Prop := postTotalsRow.holds Try.pinned (OpenSpec.ofChange postTotalsSpec)

/-- ITS FALSE NEIGHBOUR: 'it returns false'. Refute it at one input. -/
def postTotalsWrong : ChangeSpec := { name := "postTotals", fn := fun _ => fun
  | [d] => { results := [.lit (.bool false)], args := [d] }
  | _ => none }
def PostTotalsWrongFalsely : Prop := postTotalsRow.holds Try.pinned (OpenSpec.ofChange postTotalsWrong)

/-- 'complinelaw11.PostShifts': WHATEVER THE INPUT: true; the input reads as it did. -/
def postShiftsSpec : ChangeSpec := { name := "postShifts", fn := fun _ => fun
  | [d1, d2, d3] => { results := [.lit (.bool true)], args := [d1, d2, d3] }
  | _ => none }
def postShiftsRow : OpenClaim := { program := "ytgbgedaedcofcaa", sum := "a0b4c7bf850c64aff5b9f45435e7675747075c27e668168e24f268c439662568", func := "compline/complinelaw11.PostShifts", spec := "postShifts", inPlace := ["math/bits.Add64"], unfollowed := true, recurses := true, plainKeys := false, apart := false }
def PostShiftsSaid : Prop := postShiftsRow.holds Try.pinned (OpenSpec.ofChange postShiftsSpec)

/-- ITS FALSE NEIGHBOUR: 'it returns false'. Refute it at one input. -/
def postShiftsWrong : ChangeSpec := { name := "postShifts", fn := fun _ => fun
  | [d1, d2, d3] => { results := [.lit (.bool false)], args := [d1, d2, d3] }
  | _ => none }
def PostShiftsWrongFalsely : Prop := postShiftsRow.holds Try.pinned (OpenSpec.ofChange postShiftsWrong)

/-- 'complinelaw11.PostWhole': WHATEVER THE INPUT: true; the input reads as it did. -/
def postWholeSpec : ChangeSpec := { name := "postWhole", fn := fun _ => fun
  | [d1, d2] => { results := [.lit (.bool true)], args := [d1, d2] }
  | _ => none }
def postWholeRow : OpenClaim := { program := "ytgbgedaedcofcaa", sum := "a0b4c7bf850c64aff5b9f45435e7675747075c27e668168e24f268c439662568", func := "compline/complinelaw11.PostWhole", spec := "postWhole", inPlace := ["math/bits.Add64"], unfollowed := true, recurses := true, plainKeys := false, apart := false }
def PostWholeSaid : Prop := postWholeRow.holds Try.pinned (OpenSpec.ofChange postWholeSpec)

/-- ITS FALSE NEIGHBOUR: 'it returns false'. Refute it at one input. -/
def postWholeWrong : ChangeSpec := { name := "postWhole", fn := fun _ => fun
  | [d1, d2] => { results := [.lit (.bool false)], args := [d1, d2] }
  | _ => none }
def PostWholeWrongFalsely : Prop := postWholeRow.holds Try.pinned (OpenSpec.ofChange postWholeWrong)

/-- 'complinelaw11.PostNone': WHATEVER THE INPUT: true; the input reads as it did. -/
def postNoneSpec : ChangeSpec := { name := "postNone", fn := fun _ => fun
  | [d] => { results := [.lit (.bool true)], args := [d] }
  | _ => none }
def postNoneRow : OpenClaim := { program := "ytgbgedaedcofcaa", sum := "a0b4c7bf850c64aff5b9f45435e7675747075c27e668168e24f268c439662568", func := "compline/complinelaw11.PostNone", spec := "postNone", inPlace := ["math/bits.Add64"], unfollowed := true, recurses := true, plainKeys := false, apart := false }
def PostNoneSaid : Prop := postNoneRow.holds Try.pinned (OpenSpec.ofChange postNoneSpec)

/-- ITS FALSE NEIGHBOUR: 'it returns false'. Refute it at one input. -/
def postNoneWrong : ChangeSpec := { name := "postNone", fn := fun _ => fun
  | [d] => { results := [.lit (.bool false)], args := [d] }
  | _ => none }
def PostNoneWrongFalsely : Prop := postNoneRow.holds Try.pinned (OpenSpec.ofChange postNoneWrong)

/- THE SECOND FORM. 'bulk': how many values and letters a reading holds, each counted each time it is reached (what is shared counts as often as it is met; a slice's spare places count too). A statement '..UptoSaid' is the law's where the arguments, and the package variables that the reading takes, are together of bulk at most 1048576: NARROWER than '..Said'. Prove '..Said' where nothing that the law and all that it calls make is longer than what came in: it says more and counts as full. Else prove '..UptoSaid'. A law counts once. -/
mutual
def uptoBulk {H : Type} : DataW H → Nat
  | .lit (.string bytes) => bytes.length + 1
  | .lit _ => 1
  | .nil => 1
  | .ptr d => uptoBulk d + 1
  | .slice elems spare => uptoBulkAll elems + uptoBulkAll spare + 1
  | .agg parts => uptoBulkAll parts + 1
  | .iface _ d => uptoBulk d + 1
  | .map entries => uptoBulkEntries entries + 1
  | .held _ => 1
def uptoBulkAll {H : Type} : List (DataW H) → Nat
  | [] => 0
  | d :: r => uptoBulk d + uptoBulkAll r
def uptoBulkEntries {H : Type} : List (Lit × DataW H) → Nat
  | [] => 0
  | x :: r => uptoBulkEntry x + uptoBulkEntries r
def uptoBulkEntry {H : Type} : Lit × DataW H → Nat
  | (.string bytes, d) => bytes.length + uptoBulk d + 1
  | (_, d) => uptoBulk d + 1
 end
def uptoSmall : (H : Type) → List (DataW H) → Bool := fun _ ds => decide (uptoBulkAll ds ≤ 1048576)
def OpenSpec.upto (s : _root_.Go.ChangeSpec) : _root_.Go.OpenSpec := { _root_.Go.OpenSpec.ofChange s with cond := some uptoSmall }

/-- 'complinelaw10.PosBack', WHERE WHAT IT READS IS OF BULK AT MOST 1048576: true; the input reads as it did. -/
def posBackUptoRow : OpenClaim := { program := "ytgbgedaedcofcaa", sum := "a0b4c7bf850c64aff5b9f45435e7675747075c27e668168e24f268c439662568", func := "compline/complinelaw10.PosBack", spec := "posBack", inPlace := ["math/bits.Add64"], unfollowed := true, recurses := true, plainKeys := false, apart := false, narrowed := true }
def PosBackUptoSaid : Prop := posBackUptoRow.holds Try.pinned (OpenSpec.upto posBackSpec)

/-- 'complinelaw10.PosRows', WHERE WHAT IT READS IS OF BULK AT MOST 1048576: true; the input reads as it did. -/
def posRowsUptoRow : OpenClaim := { program := "ytgbgedaedcofcaa", sum := "a0b4c7bf850c64aff5b9f45435e7675747075c27e668168e24f268c439662568", func := "compline/complinelaw10.PosRows", spec := "posRows", inPlace := ["math/bits.Add64"], unfollowed := true, recurses := true, plainKeys := false, apart := false, narrowed := true }
def PosRowsUptoSaid : Prop := posRowsUptoRow.holds Try.pinned (OpenSpec.upto posRowsSpec)

/-- 'complinelaw10.PosNone', WHERE WHAT IT READS IS OF BULK AT MOST 1048576: true; the input reads as it did. -/
def posNoneUptoRow : OpenClaim := { program := "ytgbgedaedcofcaa", sum := "a0b4c7bf850c64aff5b9f45435e7675747075c27e668168e24f268c439662568", func := "compline/complinelaw10.PosNone", spec := "posNone", inPlace := ["math/bits.Add64"], unfollowed := true, recurses := true, plainKeys := false, apart := false, narrowed := true }
def PosNoneUptoSaid : Prop := posNoneUptoRow.holds Try.pinned (OpenSpec.upto posNoneSpec)

/-- 'complinelaw10.PosSums', WHERE WHAT IT READS IS OF BULK AT MOST 1048576: true; the input reads as it did. -/
def posSumsUptoRow : OpenClaim := { program := "ytgbgedaedcofcaa", sum := "a0b4c7bf850c64aff5b9f45435e7675747075c27e668168e24f268c439662568", func := "compline/complinelaw10.PosSums", spec := "posSums", inPlace := ["math/bits.Add64"], unfollowed := true, recurses := true, plainKeys := false, apart := false, narrowed := true }
def PosSumsUptoSaid : Prop := posSumsUptoRow.holds Try.pinned (OpenSpec.upto posSumsSpec)

/-- 'complinelaw11.PostLevel', WHERE WHAT IT READS IS OF BULK AT MOST 1048576: true; the input reads as it did. -/
def postLevelUptoRow : OpenClaim := { program := "ytgbgedaedcofcaa", sum := "a0b4c7bf850c64aff5b9f45435e7675747075c27e668168e24f268c439662568", func := "compline/complinelaw11.PostLevel", spec := "postLevel", inPlace := ["math/bits.Add64"], unfollowed := true, recurses := true, plainKeys := false, apart := false, narrowed := true }
def PostLevelUptoSaid : Prop := postLevelUptoRow.holds Try.pinned (OpenSpec.upto postLevelSpec)

/-- 'complinelaw11.PostSplits', WHERE WHAT IT READS IS OF BULK AT MOST 1048576: true; the input reads as it did. -/
def postSplitsUptoRow : OpenClaim := { program := "ytgbgedaedcofcaa", sum := "a0b4c7bf850c64aff5b9f45435e7675747075c27e668168e24f268c439662568", func := "compline/complinelaw11.PostSplits", spec := "postSplits", inPlace := ["math/bits.Add64"], unfollowed := true, recurses := true, plainKeys := false, apart := false, narrowed := true }
def PostSplitsUptoSaid : Prop := postSplitsUptoRow.holds Try.pinned (OpenSpec.upto postSplitsSpec)

/-- 'complinelaw11.PostMoves', WHERE WHAT IT READS IS OF BULK AT MOST 1048576: true; the input reads as it did. -/
def postMovesUptoRow : OpenClaim := { program := "ytgbgedaedcofcaa", sum := "a0b4c7bf850c64aff5b9f45435e7675747075c27e668168e24f268c439662568", func := "compline/complinelaw11.PostMoves", spec := "postMoves", inPlace := ["math/bits.Add64"], unfollowed := true, recurses := true, plainKeys := false, apart := false, narrowed := true }
def PostMovesUptoSaid : Prop := postMovesUptoRow.holds Try.pinned (OpenSpec.upto postMovesSpec)

/-- 'complinelaw11.PostTotals', WHERE WHAT IT READS IS OF BULK AT MOST 1048576: true; the input reads as it did. -/
def postTotalsUptoRow : OpenClaim := { program := "ytgbgedaedcofcaa", sum := "a0b4c7bf850c64aff5b9f45435e7675747075c27e668168e24f268c439662568", func := "compline/complinelaw11.PostTotals", spec := "postTotals", inPlace := ["math/bits.Add64"], unfollowed := true, recurses := true, plainKeys := false, apart := false, narrowed := true }
def PostTotalsUptoSaid : Prop := postTotalsUptoRow.holds Try.pinned (OpenSpec.upto postTotalsSpec)

/-- 'complinelaw11.PostShifts', WHERE WHAT IT READS IS OF BULK AT MOST 1048576: true; the input reads as it did. -/
def postShiftsUptoRow : OpenClaim := { program := "ytgbgedaedcofcaa", sum := "a0b4c7bf850c64aff5b9f45435e7675747075c27e668168e24f268c439662568", func := "compline/complinelaw11.PostShifts", spec := "postShifts", inPlace := ["math/bits.Add64"], unfollowed := true, recurses := true, plainKeys := false, apart := false, narrowed := true }
def PostShiftsUptoSaid : Prop := postShiftsUptoRow.holds Try.pinned (OpenSpec.upto postShiftsSpec)

/-- 'complinelaw11.PostWhole', WHERE WHAT IT READS IS OF BULK AT MOST 1048576: true; the input reads as it did. -/
def postWholeUptoRow : OpenClaim := { program := "ytgbgedaedcofcaa", sum := "a0b4c7bf850c64aff5b9f45435e7675747075c27e668168e24f268c439662568", func := "compline/complinelaw11.PostWhole", spec := "postWhole", inPlace := ["math/bits.Add64"], unfollowed := true, recurses := true, plainKeys := false, apart := false, narrowed := true }
def PostWholeUptoSaid : Prop := postWholeUptoRow.holds Try.pinned (OpenSpec.upto postWholeSpec)

/-- 'complinelaw11.PostNone', WHERE WHAT IT READS IS OF BULK AT MOST 1048576: true; the input reads as it did. -/
def postNoneUptoRow : OpenClaim := { program := "ytgbgedaedcofcaa", sum := "a0b4c7bf850c64aff5b9f45435e7675747075c27e668168e24f268c439662568", func := "compline/complinelaw11.PostNone", spec := "postNone", inPlace := ["math/bits.Add64"], unfollowed := true, recurses := true, plainKeys := false, apart := false, narrowed := true }
def PostNoneUptoSaid : Prop := postNoneUptoRow.holds Try.pinned (OpenSpec.upto postNoneSpec)

end Rows
end Go.Proofs.Ytgbgedaedcofcaa
