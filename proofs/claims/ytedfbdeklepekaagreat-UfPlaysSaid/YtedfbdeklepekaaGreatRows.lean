/-
  No cell of these rows narrows 'for every input' (looked for: loops, veiled, ifaces, maps, wideKeys, modest, calm, conditions, laid).
  DERIVED. THE GIVEN ROWS OF THIS SEAT. 3 by the template 'for every input the law returns true; each argument reads behind the call as it read before'; 0 by the template 'total and deterministic' (their statements: YtedfbdeklepekaaGreatTotals.lean).
  GIVEN WITH THE SEED: the statements are not yours to turn. If you find one false, say at which input.
  Laid BY PROGRAM, IN A SANDBOX (cutbox-rows.mjs): the forced cells as the released guide's own fill.sh prints them over the translation 5b40ffa7112357ce… (all of the seat's roots in one cut). By AI agents, Wed Nov 11 2026. No macro, syntax, notation, axiom, sorry.
-/
import Derived.Test.YtedfbdeklepekaaGreatChecked
import GoSem.Claim
import GoSem.ClaimJoined
import GoSem.ClaimMapViews
import Derived.JoinedTies
import Derived.KernelRfl
namespace Go.Proofs.YtedfbdeklepekaaGreat
/- THE CELL 'sum', in the pinned program and in every row, IS THE sha256 OF THE DUMP (.gsa) THAT YtedfbdeklepekaaGreatProg.lean LOADS. Nothing in Lean hashes anything: it is a label: what it is worth is what the hold of that sum in a sandbox is worth. -/
noncomputable def Tryz.pinned : Pinned := { name := "ytedfbdeklepekaagreat", sum := "5b40ffa7112357cedf69c9dc6a69bb794d3a8ec4bebd3f74e09d2b95e109445f", checked := Tryz.checked }
namespace Rows
def none {H : Type} : Left H := { results := [], args := [] }

/-- 'complinelaw17.UfPlays': WHATEVER THE INPUT: true; the input reads as it did. -/
def ufPlaysSpec : ChangeSpec := { name := "ufPlays", fn := fun _ => fun
  | [d1, d2, d3] => { results := [.lit (.bool true)], args := [d1, d2, d3] }
  | _ => none }
def ufPlaysRow : OpenClaim := { program := "ytedfbdeklepekaagreat", sum := "5b40ffa7112357cedf69c9dc6a69bb794d3a8ec4bebd3f74e09d2b95e109445f", func := "compline/complinelaw17.UfPlays", spec := "ufPlays", apart := false }
def UfPlaysSaid : Prop := ufPlaysRow.holds Tryz.pinned (OpenSpec.ofChange ufPlaysSpec)

/-- ITS FALSE NEIGHBOUR: 'it returns false'. Refute it at one input. -/
def ufPlaysWrong : ChangeSpec := { name := "ufPlays", fn := fun _ => fun
  | [d1, d2, d3] => { results := [.lit (.bool false)], args := [d1, d2, d3] }
  | _ => none }
def UfPlaysWrongFalsely : Prop := ufPlaysRow.holds Tryz.pinned (OpenSpec.ofChange ufPlaysWrong)

/-- 'complinelaw18.LinkPlays': WHATEVER THE INPUT: true; the input reads as it did. -/
def linkPlaysSpec : ChangeSpec := { name := "linkPlays", fn := fun _ => fun
  | [d1, d2] => { results := [.lit (.bool true)], args := [d1, d2] }
  | _ => none }
def linkPlaysRow : OpenClaim := { program := "ytedfbdeklepekaagreat", sum := "5b40ffa7112357cedf69c9dc6a69bb794d3a8ec4bebd3f74e09d2b95e109445f", func := "compline/complinelaw18.LinkPlays", spec := "linkPlays", unfollowed := true, recurses := true, apart := false }
def LinkPlaysSaid : Prop := linkPlaysRow.holds Tryz.pinned (OpenSpec.ofChange linkPlaysSpec)

/-- ITS FALSE NEIGHBOUR: 'it returns false'. Refute it at one input. -/
def linkPlaysWrong : ChangeSpec := { name := "linkPlays", fn := fun _ => fun
  | [d1, d2] => { results := [.lit (.bool false)], args := [d1, d2] }
  | _ => none }
def LinkPlaysWrongFalsely : Prop := linkPlaysRow.holds Tryz.pinned (OpenSpec.ofChange linkPlaysWrong)

/-- 'complinelaw19.SeqTells': WHATEVER THE INPUT: true; the input reads as it did. -/
def seqTellsSpec : ChangeSpec := { name := "seqTells", fn := fun _ => fun
  | [d1, d2, d3, d4, d5, d6] => { results := [.lit (.bool true)], args := [d1, d2, d3, d4, d5, d6] }
  | _ => none }
def seqTellsRow : OpenClaim := { program := "ytedfbdeklepekaagreat", sum := "5b40ffa7112357cedf69c9dc6a69bb794d3a8ec4bebd3f74e09d2b95e109445f", func := "compline/complinelaw19.SeqTells", spec := "seqTells", unfollowed := true, recurses := true, apart := false }
def SeqTellsSaid : Prop := seqTellsRow.holds Tryz.pinned (OpenSpec.ofChange seqTellsSpec)

/-- ITS FALSE NEIGHBOUR: 'it returns false'. Refute it at one input. -/
def seqTellsWrong : ChangeSpec := { name := "seqTells", fn := fun _ => fun
  | [d1, d2, d3, d4, d5, d6] => { results := [.lit (.bool false)], args := [d1, d2, d3, d4, d5, d6] }
  | _ => none }
def SeqTellsWrongFalsely : Prop := seqTellsRow.holds Tryz.pinned (OpenSpec.ofChange seqTellsWrong)

/- THE SECOND FORM. 'bulk': how many values and letters a reading holds, each counted each time it is reached (what is shared counts as often as it is met; a slice's spare places count too). A statement '..UptoSaid' is the law's where the arguments, and the package variables that the reading takes, are together of bulk at most 1048576: NARROWER than '..Said'. Prove '..Said' where nothing that the law and all that it calls make is longer than what came in: it says more and counts as full. Else prove '..UptoSaid'. A law counts once. -/
mutual
def uptoBulk {H : Type} : DataW H → Nat
  | .lit (.string bytes) => bytes.length + 1
  | .lit _ => 1
  | .nil => 1
  | .ptr d => uptoBulk d + 1
  | .slice elems spare => uptoBulkAll elems + uptoBulkAll spare + 1
  | .agg parts => uptoBulkAll parts + 1
  | .iface _ d => uptoBulk d + 1
  | .map entries => uptoBulkEntries entries + 1
  | .held _ => 1
def uptoBulkAll {H : Type} : List (DataW H) → Nat
  | [] => 0
  | d :: r => uptoBulk d + uptoBulkAll r
def uptoBulkEntries {H : Type} : List (Lit × DataW H) → Nat
  | [] => 0
  | x :: r => uptoBulkEntry x + uptoBulkEntries r
def uptoBulkEntry {H : Type} : Lit × DataW H → Nat
  | (.string bytes, d) => bytes.length + uptoBulk d + 1
  | (_, d) => uptoBulk d + 1
 end
def uptoSmall : (H : Type) → List (DataW H) → Bool := fun _ ds => decide (uptoBulkAll ds ≤ 1048576)
def OpenSpec.upto (s : _root_.Go.ChangeSpec) : _root_.Go.OpenSpec := { _root_.Go.OpenSpec.ofChange s with cond := some uptoSmall }

/-- 'complinelaw17.UfPlays', WHERE WHAT IT READS IS OF BULK AT MOST 1048576: true; the input reads as it did. -/
def ufPlaysUptoRow : OpenClaim := { program := "ytedfbdeklepekaagreat", sum := "5b40ffa7112357cedf69c9dc6a69bb794d3a8ec4bebd3f74e09d2b95e109445f", func := "compline/complinelaw17.UfPlays", spec := "ufPlays", apart := false, narrowed := true }
def UfPlaysUptoSaid : Prop := ufPlaysUptoRow.holds Tryz.pinned (OpenSpec.upto ufPlaysSpec)

/-- 'complinelaw18.LinkPlays', WHERE WHAT IT READS IS OF BULK AT MOST 1048576: true; the input reads as it did. -/
def linkPlaysUptoRow : OpenClaim := { program := "ytedfbdeklepekaagreat", sum := "5b40ffa7112357cedf69c9dc6a69bb794d3a8ec4bebd3f74e09d2b95e109445f", func := "compline/complinelaw18.LinkPlays", spec := "linkPlays", unfollowed := true, recurses := true, apart := false, narrowed := true }
def LinkPlaysUptoSaid : Prop := linkPlaysUptoRow.holds Tryz.pinned (OpenSpec.upto linkPlaysSpec)

/-- 'complinelaw19.SeqTells', WHERE WHAT IT READS IS OF BULK AT MOST 1048576: true; the input reads as it did. -/
def seqTellsUptoRow : OpenClaim := { program := "ytedfbdeklepekaagreat", sum := "5b40ffa7112357cedf69c9dc6a69bb794d3a8ec4bebd3f74e09d2b95e109445f", func := "compline/complinelaw19.SeqTells", spec := "seqTells", unfollowed := true, recurses := true, apart := false, narrowed := true }
def SeqTellsUptoSaid : Prop := seqTellsUptoRow.holds Tryz.pinned (OpenSpec.upto seqTellsSpec)

end Rows
end Go.Proofs.YtedfbdeklepekaaGreat
