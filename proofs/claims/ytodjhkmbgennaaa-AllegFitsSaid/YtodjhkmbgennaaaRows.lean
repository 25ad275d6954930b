/-
  No cell of these rows narrows 'for every input' (looked for: loops, veiled, ifaces, maps, wideKeys, modest, calm, conditions, laid).
  DERIVED. THE GIVEN ROWS OF THIS SEAT. 9 by the template 'for every input the law returns true; each argument reads behind the call as it read before'; 0 by the template 'total and deterministic' (their statements: YtodjhkmbgennaaaTotals.lean).
  GIVEN WITH THE SEED: the statements are not yours to turn. If you find one false, say at which input.
  Laid BY PROGRAM, IN A SANDBOX (cutbox-rows.mjs): the forced cells as the released guide's own fill.sh prints them over the translation d7d6002237b28f93… (all of the seat's roots in one cut). By AI agents, Wed Nov 11 2026. No macro, syntax, notation, axiom, sorry.
-/
import Derived.Test.YtodjhkmbgennaaaChecked
import GoSem.Claim
import GoSem.ClaimJoined
import GoSem.ClaimMapViews
import Derived.JoinedTies
import Derived.KernelRfl
namespace Go.Proofs.Ytodjhkmbgennaaa
/- THE CELL 'sum', in the pinned program and in every row, IS THE sha256 OF THE DUMP (.gsa) THAT YtodjhkmbgennaaaProg.lean LOADS. Nothing in Lean hashes anything: it is a label: what it is worth is what the hold of that sum in a sandbox is worth. -/
noncomputable def Try.pinned : Pinned := { name := "ytodjhkmbgennaaa", sum := "d7d6002237b28f93c282a3c5ee35f4022b6f643f3382cce16347ed88ea656d6f", checked := Try.checked }
namespace Rows
def none {H : Type} : Left H := { results := [], args := [] }

/-- 'complinelaw15.MatchBoth': WHATEVER THE INPUT: true; the input reads as it did. -/
def matchBothSpec : ChangeSpec := { name := "matchBoth", fn := fun _ => fun
  | [d1, d2, d3, d4] => { results := [.lit (.bool true)], args := [d1, d2, d3, d4] }
  | _ => none }
def matchBothRow : OpenClaim := { program := "ytodjhkmbgennaaa", sum := "d7d6002237b28f93c282a3c5ee35f4022b6f643f3382cce16347ed88ea656d6f", func := "compline/complinelaw15.MatchBoth", spec := "matchBoth", unfollowed := true, recurses := true, apart := false }
def MatchBothSaid : Prop := matchBothRow.holds Try.pinned (OpenSpec.ofChange matchBothSpec)

/-- ITS FALSE NEIGHBOUR: 'it returns false'. Refute it at one input. -/
def matchBothWrong : ChangeSpec := { name := "matchBoth", fn := fun _ => fun
  | [d1, d2, d3, d4] => { results := [.lit (.bool false)], args := [d1, d2, d3, d4] }
  | _ => none }
def MatchBothWrongFalsely : Prop := matchBothRow.holds Try.pinned (OpenSpec.ofChange matchBothWrong)

/-- 'complinelaw15.MatchClosest': WHATEVER THE INPUT: true; the input reads as it did. -/
def matchClosestSpec : ChangeSpec := { name := "matchClosest", fn := fun _ => fun
  | [d1, d2, d3] => { results := [.lit (.bool true)], args := [d1, d2, d3] }
  | _ => none }
def matchClosestRow : OpenClaim := { program := "ytodjhkmbgennaaa", sum := "d7d6002237b28f93c282a3c5ee35f4022b6f643f3382cce16347ed88ea656d6f", func := "compline/complinelaw15.MatchClosest", spec := "matchClosest", unfollowed := true, recurses := true, apart := false }
def MatchClosestSaid : Prop := matchClosestRow.holds Try.pinned (OpenSpec.ofChange matchClosestSpec)

/-- ITS FALSE NEIGHBOUR: 'it returns false'. Refute it at one input. -/
def matchClosestWrong : ChangeSpec := { name := "matchClosest", fn := fun _ => fun
  | [d1, d2, d3] => { results := [.lit (.bool false)], args := [d1, d2, d3] }
  | _ => none }
def MatchClosestWrongFalsely : Prop := matchClosestRow.holds Try.pinned (OpenSpec.ofChange matchClosestWrong)

/-- 'complinelaw14.BookIds': WHATEVER THE INPUT: true; the input reads as it did. -/
def bookIdsSpec : ChangeSpec := { name := "bookIds", fn := fun _ => fun
  | [d1, d2] => { results := [.lit (.bool true)], args := [d1, d2] }
  | _ => none }
def bookIdsRow : OpenClaim := { program := "ytodjhkmbgennaaa", sum := "d7d6002237b28f93c282a3c5ee35f4022b6f643f3382cce16347ed88ea656d6f", func := "compline/complinelaw14.BookIds", spec := "bookIds", apart := false }
def BookIdsSaid : Prop := bookIdsRow.holds Try.pinned (OpenSpec.ofChange bookIdsSpec)

/-- ITS FALSE NEIGHBOUR: 'it returns false'. Refute it at one input. -/
def bookIdsWrong : ChangeSpec := { name := "bookIds", fn := fun _ => fun
  | [d1, d2] => { results := [.lit (.bool false)], args := [d1, d2] }
  | _ => none }
def BookIdsWrongFalsely : Prop := bookIdsRow.holds Try.pinned (OpenSpec.ofChange bookIdsWrong)

/-- 'complinelaw14.BookBoth': WHATEVER THE INPUT: true; the input reads as it did. -/
def bookBothSpec : ChangeSpec := { name := "bookBoth", fn := fun _ => fun
  | [d1, d2, d3] => { results := [.lit (.bool true)], args := [d1, d2, d3] }
  | _ => none }
def bookBothRow : OpenClaim := { program := "ytodjhkmbgennaaa", sum := "d7d6002237b28f93c282a3c5ee35f4022b6f643f3382cce16347ed88ea656d6f", func := "compline/complinelaw14.BookBoth", spec := "bookBoth", apart := false }
def BookBothSaid : Prop := bookBothRow.holds Try.pinned (OpenSpec.ofChange bookBothSpec)

/-- ITS FALSE NEIGHBOUR: 'it returns false'. Refute it at one input. -/
def bookBothWrong : ChangeSpec := { name := "bookBoth", fn := fun _ => fun
  | [d1, d2, d3] => { results := [.lit (.bool false)], args := [d1, d2, d3] }
  | _ => none }
def BookBothWrongFalsely : Prop := bookBothRow.holds Try.pinned (OpenSpec.ofChange bookBothWrong)

/-- 'complinelaw14.BookRights': WHATEVER THE INPUT: true; the input reads as it did. -/
def bookRightsSpec : ChangeSpec := { name := "bookRights", fn := fun _ => fun
  | [d1, d2] => { results := [.lit (.bool true)], args := [d1, d2] }
  | _ => none }
def bookRightsRow : OpenClaim := { program := "ytodjhkmbgennaaa", sum := "d7d6002237b28f93c282a3c5ee35f4022b6f643f3382cce16347ed88ea656d6f", func := "compline/complinelaw14.BookRights", spec := "bookRights", apart := false }
def BookRightsSaid : Prop := bookRightsRow.holds Try.pinned (OpenSpec.ofChange bookRightsSpec)

/-- ITS FALSE NEIGHBOUR: 'it returns false'. Refute it at one input. -/
def bookRightsWrong : ChangeSpec := { name := "bookRights", fn := fun _ => fun
  | [d1, d2] => { results := [.lit (.bool false)], args := [d1, d2] }
  | _ => none }
def BookRightsWrongFalsely : Prop := bookRightsRow.holds Try.pinned (OpenSpec.ofChange bookRightsWrong)

/-- 'complinelaw14.BookMates': WHATEVER THE INPUT: true; the input reads as it did. -/
def bookMatesSpec : ChangeSpec := { name := "bookMates", fn := fun _ => fun
  | [d] => { results := [.lit (.bool true)], args := [d] }
  | _ => none }
def bookMatesRow : OpenClaim := { program := "ytodjhkmbgennaaa", sum := "d7d6002237b28f93c282a3c5ee35f4022b6f643f3382cce16347ed88ea656d6f", func := "compline/complinelaw14.BookMates", spec := "bookMates", apart := false }
def BookMatesSaid : Prop := bookMatesRow.holds Try.pinned (OpenSpec.ofChange bookMatesSpec)

/-- ITS FALSE NEIGHBOUR: 'it returns false'. Refute it at one input. -/
def bookMatesWrong : ChangeSpec := { name := "bookMates", fn := fun _ => fun
  | [d] => { results := [.lit (.bool false)], args := [d] }
  | _ => none }
def BookMatesWrongFalsely : Prop := bookMatesRow.holds Try.pinned (OpenSpec.ofChange bookMatesWrong)

/-- 'complinelaw16.AllegNear': WHATEVER THE INPUT: true; the input reads as it did. -/
def allegNearSpec : ChangeSpec := { name := "allegNear", fn := fun _ => fun
  | [d1, d2] => { results := [.lit (.bool true)], args := [d1, d2] }
  | _ => none }
def allegNearRow : OpenClaim := { program := "ytodjhkmbgennaaa", sum := "d7d6002237b28f93c282a3c5ee35f4022b6f643f3382cce16347ed88ea656d6f", func := "compline/complinelaw16.AllegNear", spec := "allegNear", unfollowed := true, recurses := true, apart := false }
def AllegNearSaid : Prop := allegNearRow.holds Try.pinned (OpenSpec.ofChange allegNearSpec)

/-- ITS FALSE NEIGHBOUR: 'it returns false'. Refute it at one input. -/
def allegNearWrong : ChangeSpec := { name := "allegNear", fn := fun _ => fun
  | [d1, d2] => { results := [.lit (.bool false)], args := [d1, d2] }
  | _ => none }
def AllegNearWrongFalsely : Prop := allegNearRow.holds Try.pinned (OpenSpec.ofChange allegNearWrong)

/-- 'complinelaw16.AllegFits': WHATEVER THE INPUT: true; the input reads as it did. -/
def allegFitsSpec : ChangeSpec := { name := "allegFits", fn := fun _ => fun
  | [d1, d2, d3] => { results := [.lit (.bool true)], args := [d1, d2, d3] }
  | _ => none }
def allegFitsRow : OpenClaim := { program := "ytodjhkmbgennaaa", sum := "d7d6002237b28f93c282a3c5ee35f4022b6f643f3382cce16347ed88ea656d6f", func := "compline/complinelaw16.AllegFits", spec := "allegFits", unfollowed := true, recurses := true, apart := false }
def AllegFitsSaid : Prop := allegFitsRow.holds Try.pinned (OpenSpec.ofChange allegFitsSpec)

/-- ITS FALSE NEIGHBOUR: 'it returns false'. Refute it at one input. -/
def allegFitsWrong : ChangeSpec := { name := "allegFits", fn := fun _ => fun
  | [d1, d2, d3] => { results := [.lit (.bool false)], args := [d1, d2, d3] }
  | _ => none }
def AllegFitsWrongFalsely : Prop := allegFitsRow.holds Try.pinned (OpenSpec.ofChange allegFitsWrong)

/-- 'complinelaw14.BookNone': WHATEVER THE INPUT: true; the input reads as it did. -/
def bookNoneSpec : ChangeSpec := { name := "bookNone", fn := fun _ => fun
  | [d] => { results := [.lit (.bool true)], args := [d] }
  | _ => none }
def bookNoneRow : OpenClaim := { program := "ytodjhkmbgennaaa", sum := "d7d6002237b28f93c282a3c5ee35f4022b6f643f3382cce16347ed88ea656d6f", func := "compline/complinelaw14.BookNone", spec := "bookNone", apart := false }
def BookNoneSaid : Prop := bookNoneRow.holds Try.pinned (OpenSpec.ofChange bookNoneSpec)

/-- ITS FALSE NEIGHBOUR: 'it returns false'. Refute it at one input. -/
def bookNoneWrong : ChangeSpec := { name := "bookNone", fn := fun _ => fun
  | [d] => { results := [.lit (.bool false)], args := [d] }
  | _ => none }
def BookNoneWrongFalsely : Prop := bookNoneRow.holds Try.pinned (OpenSpec.ofChange bookNoneWrong)

/- THE SECOND FORM. 'bulk': how many values and letters a reading holds, each counted each time it is reached (what is shared counts as often as it is met; a slice's spare places count too). A statement '..UptoSaid' is the law's where the arguments, and the package variables that the reading takes, are together of bulk at most 1048576: NARROWER than '..Said'. Prove '..Said' where nothing that the law and all that it calls make is longer than what came in: it says more and counts as full. Else prove '..UptoSaid'. A law counts once. -/
mutual
def uptoBulk {H : Type} : DataW H → Nat
  | .lit (.string bytes) => bytes.length + 1
  | .lit _ => 1
  | .nil => 1
  | .ptr d => uptoBulk d + 1
  | .slice elems spare => uptoBulkAll elems + uptoBulkAll spare + 1
  | .agg parts => uptoBulkAll parts + 1
  | .iface _ d => uptoBulk d + 1
  | .map entries => uptoBulkEntries entries + 1
  | .held _ => 1
def uptoBulkAll {H : Type} : List (DataW H) → Nat
  | [] => 0
  | d :: r => uptoBulk d + uptoBulkAll r
def uptoBulkEntries {H : Type} : List (Lit × DataW H) → Nat
  | [] => 0
  | x :: r => uptoBulkEntry x + uptoBulkEntries r
def uptoBulkEntry {H : Type} : Lit × DataW H → Nat
  | (.string bytes, d) => bytes.length + uptoBulk d + 1
  | (_, d) => uptoBulk d + 1
 end
def uptoSmall : (H : Type) → List (DataW H) → Bool := fun _ ds => decide (uptoBulkAll ds ≤ 1048576)
def OpenSpec.upto (s : _root_.Go.ChangeSpec) : _root_.Go.OpenSpec := { _root_.Go.OpenSpec.ofChange s with cond := some uptoSmall }

/-- 'complinelaw15.MatchBoth', WHERE WHAT IT READS IS OF BULK AT MOST 1048576: true; the input reads as it did. -/
def matchBothUptoRow : OpenClaim := { program := "ytodjhkmbgennaaa", sum := "d7d6002237b28f93c282a3c5ee35f4022b6f643f3382cce16347ed88ea656d6f", func := "compline/complinelaw15.MatchBoth", spec := "matchBoth", unfollowed := true, recurses := true, apart := false, narrowed := true }
def MatchBothUptoSaid : Prop := matchBothUptoRow.holds Try.pinned (OpenSpec.upto matchBothSpec)

/-- 'complinelaw15.MatchClosest', WHERE WHAT IT READS IS OF BULK AT MOST 1048576: true; the input reads as it did. -/
def matchClosestUptoRow : OpenClaim := { program := "ytodjhkmbgennaaa", sum := "d7d6002237b28f93c282a3c5ee35f4022b6f643f3382cce16347ed88ea656d6f", func := "compline/complinelaw15.MatchClosest", spec := "matchClosest", unfollowed := true, recurses := true, apart := false, narrowed := true }
def MatchClosestUptoSaid : Prop := matchClosestUptoRow.holds Try.pinned (OpenSpec.upto matchClosestSpec)

/-- 'complinelaw14.BookIds', WHERE WHAT IT READS IS OF BULK AT MOST 1048576: true; the input reads as it did. -/
def bookIdsUptoRow : OpenClaim := { program := "ytodjhkmbgennaaa", sum := "d7d6002237b28f93c282a3c5ee35f4022b6f643f3382cce16347ed88ea656d6f", func := "compline/complinelaw14.BookIds", spec := "bookIds", apart := false, narrowed := true }
def BookIdsUptoSaid : Prop := bookIdsUptoRow.holds Try.pinned (OpenSpec.upto bookIdsSpec)

/-- 'complinelaw14.BookBoth', WHERE WHAT IT READS IS OF BULK AT MOST 1048576: true; the input reads as it did. -/
def bookBothUptoRow : OpenClaim := { program := "ytodjhkmbgennaaa", sum := "d7d6002237b28f93c282a3c5ee35f4022b6f643f3382cce16347ed88ea656d6f", func := "compline/complinelaw14.BookBoth", spec := "bookBoth", apart := false, narrowed := true }
def BookBothUptoSaid : Prop := bookBothUptoRow.holds Try.pinned (OpenSpec.upto bookBothSpec)

/-- 'complinelaw14.BookRights', WHERE WHAT IT READS IS OF BULK AT MOST 1048576: true; the input reads as it did. -/
def bookRightsUptoRow : OpenClaim := { program := "ytodjhkmbgennaaa", sum := "d7d6002237b28f93c282a3c5ee35f4022b6f643f3382cce16347ed88ea656d6f", func := "compline/complinelaw14.BookRights", spec := "bookRights", apart := false, narrowed := true }
def BookRightsUptoSaid : Prop := bookRightsUptoRow.holds Try.pinned (OpenSpec.upto bookRightsSpec)

/-- 'complinelaw14.BookMates', WHERE WHAT IT READS IS OF BULK AT MOST 1048576: true; the input reads as it did. -/
def bookMatesUptoRow : OpenClaim := { program := "ytodjhkmbgennaaa", sum := "d7d6002237b28f93c282a3c5ee35f4022b6f643f3382cce16347ed88ea656d6f", func := "compline/complinelaw14.BookMates", spec := "bookMates", apart := false, narrowed := true }
def BookMatesUptoSaid : Prop := bookMatesUptoRow.holds Try.pinned (OpenSpec.upto bookMatesSpec)

/-- 'complinelaw16.AllegNear', WHERE WHAT IT READS IS OF BULK AT MOST 1048576: true; the input reads as it did. -/
def allegNearUptoRow : OpenClaim := { program := "ytodjhkmbgennaaa", sum := "d7d6002237b28f93c282a3c5ee35f4022b6f643f3382cce16347ed88ea656d6f", func := "compline/complinelaw16.AllegNear", spec := "allegNear", unfollowed := true, recurses := true, apart := false, narrowed := true }
def AllegNearUptoSaid : Prop := allegNearUptoRow.holds Try.pinned (OpenSpec.upto allegNearSpec)

/-- 'complinelaw16.AllegFits', WHERE WHAT IT READS IS OF BULK AT MOST 1048576: true; the input reads as it did. -/
def allegFitsUptoRow : OpenClaim := { program := "ytodjhkmbgennaaa", sum := "d7d6002237b28f93c282a3c5ee35f4022b6f643f3382cce16347ed88ea656d6f", func := "compline/complinelaw16.AllegFits", spec := "allegFits", unfollowed := true, recurses := true, apart := false, narrowed := true }
def AllegFitsUptoSaid : Prop := allegFitsUptoRow.holds Try.pinned (OpenSpec.upto allegFitsSpec)

/-- 'complinelaw14.BookNone', WHERE WHAT IT READS IS OF BULK AT MOST 1048576: true; the input reads as it did. -/
def bookNoneUptoRow : OpenClaim := { program := "ytodjhkmbgennaaa", sum := "d7d6002237b28f93c282a3c5ee35f4022b6f643f3382cce16347ed88ea656d6f", func := "compline/complinelaw14.BookNone", spec := "bookNone", apart := false, narrowed := true }
def BookNoneUptoSaid : Prop := bookNoneUptoRow.holds Try.pinned (OpenSpec.upto bookNoneSpec)

end Rows
end Go.Proofs.Ytodjhkmbgennaaa
