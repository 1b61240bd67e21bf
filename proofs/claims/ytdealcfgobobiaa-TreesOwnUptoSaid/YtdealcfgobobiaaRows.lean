/-
  No cell of these rows narrows 'for every input' (looked for: loops, veiled, ifaces, maps, wideKeys, modest, calm, conditions, laid).
  DERIVED. THE GIVEN ROWS OF THIS SEAT. 9 by the template 'for every input the law returns true; each argument reads behind the call as it read before'; 0 by the template 'total and deterministic' (their statements: YtdealcfgobobiaaTotals.lean).
  GIVEN WITH THE SEED: the statements are not yours to turn. If you find one false, say at which input.
  Laid BY PROGRAM, IN A SANDBOX (cutbox-rows.mjs): the forced cells as the released guide's own fill.sh prints them over the translation 2a8b122af1145a78… (all of the seat's roots in one cut). By AI agents, Wed Nov 11 2026. No macro, syntax, notation, axiom, sorry.
-/
import Derived.Test.YtdealcfgobobiaaChecked
import GoSem.Claim
import GoSem.ClaimJoined
import GoSem.ClaimMapViews
import Derived.JoinedTies
import Derived.KernelRfl
namespace Go.Proofs.Ytdealcfgobobiaa
/- THE CELL 'sum', in the pinned program and in every row, IS THE sha256 OF THE DUMP (.gsa) THAT YtdealcfgobobiaaProg.lean LOADS. Nothing in Lean hashes anything: it is a label: what it is worth is what the hold of that sum in a sandbox is worth. -/
noncomputable def Try.pinned : Pinned := { name := "ytdealcfgobobiaa", sum := "2a8b122af1145a785ecac81c5726fc5d7c432d7d3845dde89e8503b012f5938e", checked := Try.checked }
namespace Rows
def none {H : Type} : Left H := { results := [], args := [] }

/-- 'thicketlaw07.TreesGoes': WHATEVER THE INPUT: true; the input reads as it did. -/
def treesGoesSpec : ChangeSpec := { name := "treesGoes", fn := fun _ => fun
  | [d1, d2] => { results := [.lit (.bool true)], args := [d1, d2] }
  | _ => none }
def treesGoesRow : OpenClaim := { program := "ytdealcfgobobiaa", sum := "2a8b122af1145a785ecac81c5726fc5d7c432d7d3845dde89e8503b012f5938e", func := "thicket/thicketlaw07.TreesGoes", spec := "treesGoes", inPlace := ["math.Float64bits", "math.Float64frombits"], unfollowed := true, recurses := true, apart := false }
def TreesGoesSaid : Prop := treesGoesRow.holds Try.pinned (OpenSpec.ofChange treesGoesSpec)

/-- ITS FALSE NEIGHBOUR: 'it returns false'. Refute it at one input. -/
def treesGoesWrong : ChangeSpec := { name := "treesGoes", fn := fun _ => fun
  | [d1, d2] => { results := [.lit (.bool false)], args := [d1, d2] }
  | _ => none }
def TreesGoesWrongFalsely : Prop := treesGoesRow.holds Try.pinned (OpenSpec.ofChange treesGoesWrong)

/-- 'thicketlaw07.TreesWays': WHATEVER THE INPUT: true; the input reads as it did. -/
def treesWaysSpec : ChangeSpec := { name := "treesWays", fn := fun _ => fun
  | [d1, d2] => { results := [.lit (.bool true)], args := [d1, d2] }
  | _ => none }
def treesWaysRow : OpenClaim := { program := "ytdealcfgobobiaa", sum := "2a8b122af1145a785ecac81c5726fc5d7c432d7d3845dde89e8503b012f5938e", func := "thicket/thicketlaw07.TreesWays", spec := "treesWays", inPlace := ["math.Float64bits", "math.Float64frombits"], unfollowed := true, recurses := true, apart := false }
def TreesWaysSaid : Prop := treesWaysRow.holds Try.pinned (OpenSpec.ofChange treesWaysSpec)

/-- ITS FALSE NEIGHBOUR: 'it returns false'. Refute it at one input. -/
def treesWaysWrong : ChangeSpec := { name := "treesWays", fn := fun _ => fun
  | [d1, d2] => { results := [.lit (.bool false)], args := [d1, d2] }
  | _ => none }
def TreesWaysWrongFalsely : Prop := treesWaysRow.holds Try.pinned (OpenSpec.ofChange treesWaysWrong)

/-- 'thicketlaw07.TreesScores': WHATEVER THE INPUT: true; the input reads as it did. -/
def treesScoresSpec : ChangeSpec := { name := "treesScores", fn := fun _ => fun
  | [d1, d2] => { results := [.lit (.bool true)], args := [d1, d2] }
  | _ => none }
def treesScoresRow : OpenClaim := { program := "ytdealcfgobobiaa", sum := "2a8b122af1145a785ecac81c5726fc5d7c432d7d3845dde89e8503b012f5938e", func := "thicket/thicketlaw07.TreesScores", spec := "treesScores", inPlace := ["math.Float64bits", "math.Float64frombits"], unfollowed := true, recurses := true, apart := false }
def TreesScoresSaid : Prop := treesScoresRow.holds Try.pinned (OpenSpec.ofChange treesScoresSpec)

/-- ITS FALSE NEIGHBOUR: 'it returns false'. Refute it at one input. -/
def treesScoresWrong : ChangeSpec := { name := "treesScores", fn := fun _ => fun
  | [d1, d2] => { results := [.lit (.bool false)], args := [d1, d2] }
  | _ => none }
def TreesScoresWrongFalsely : Prop := treesScoresRow.holds Try.pinned (OpenSpec.ofChange treesScoresWrong)

/-- 'thicketlaw07.TreesShapes': WHATEVER THE INPUT: true; the input reads as it did. -/
def treesShapesSpec : ChangeSpec := { name := "treesShapes", fn := fun _ => fun
  | [d] => { results := [.lit (.bool true)], args := [d] }
  | _ => none }
def treesShapesRow : OpenClaim := { program := "ytdealcfgobobiaa", sum := "2a8b122af1145a785ecac81c5726fc5d7c432d7d3845dde89e8503b012f5938e", func := "thicket/thicketlaw07.TreesShapes", spec := "treesShapes", inPlace := ["math.Float64bits", "math.Float64frombits"], unfollowed := true, recurses := true, apart := false }
def TreesShapesSaid : Prop := treesShapesRow.holds Try.pinned (OpenSpec.ofChange treesShapesSpec)

/-- ITS FALSE NEIGHBOUR: 'it returns false'. Refute it at one input. -/
def treesShapesWrong : ChangeSpec := { name := "treesShapes", fn := fun _ => fun
  | [d] => { results := [.lit (.bool false)], args := [d] }
  | _ => none }
def TreesShapesWrongFalsely : Prop := treesShapesRow.holds Try.pinned (OpenSpec.ofChange treesShapesWrong)

/-- 'thicketlaw07.TreesSums': WHATEVER THE INPUT: true; the input reads as it did. -/
def treesSumsSpec : ChangeSpec := { name := "treesSums", fn := fun _ => fun
  | [d1, d2, d3] => { results := [.lit (.bool true)], args := [d1, d2, d3] }
  | _ => none }
def treesSumsRow : OpenClaim := { program := "ytdealcfgobobiaa", sum := "2a8b122af1145a785ecac81c5726fc5d7c432d7d3845dde89e8503b012f5938e", func := "thicket/thicketlaw07.TreesSums", spec := "treesSums", inPlace := ["math.Float64bits", "math.Float64frombits"], unfollowed := true, recurses := true, apart := false }
def TreesSumsSaid : Prop := treesSumsRow.holds Try.pinned (OpenSpec.ofChange treesSumsSpec)

/-- ITS FALSE NEIGHBOUR: 'it returns false'. Refute it at one input. -/
def treesSumsWrong : ChangeSpec := { name := "treesSums", fn := fun _ => fun
  | [d1, d2, d3] => { results := [.lit (.bool false)], args := [d1, d2, d3] }
  | _ => none }
def TreesSumsWrongFalsely : Prop := treesSumsRow.holds Try.pinned (OpenSpec.ofChange treesSumsWrong)

/-- 'thicketlaw07.TreesOwn': WHATEVER THE INPUT: true; the input reads as it did. -/
def treesOwnSpec : ChangeSpec := { name := "treesOwn", fn := fun _ => fun
  | [d1, d2] => { results := [.lit (.bool true)], args := [d1, d2] }
  | _ => none }
def treesOwnRow : OpenClaim := { program := "ytdealcfgobobiaa", sum := "2a8b122af1145a785ecac81c5726fc5d7c432d7d3845dde89e8503b012f5938e", func := "thicket/thicketlaw07.TreesOwn", spec := "treesOwn", inPlace := ["math.Float64bits", "math.Float64frombits"], unfollowed := true, recurses := true, apart := false }
def TreesOwnSaid : Prop := treesOwnRow.holds Try.pinned (OpenSpec.ofChange treesOwnSpec)

/-- ITS FALSE NEIGHBOUR: 'it returns false'. Refute it at one input. -/
def treesOwnWrong : ChangeSpec := { name := "treesOwn", fn := fun _ => fun
  | [d1, d2] => { results := [.lit (.bool false)], args := [d1, d2] }
  | _ => none }
def TreesOwnWrongFalsely : Prop := treesOwnRow.holds Try.pinned (OpenSpec.ofChange treesOwnWrong)

/-- 'thicketlaw07.TreesOne': WHATEVER THE INPUT: true; the input reads as it did. -/
def treesOneSpec : ChangeSpec := { name := "treesOne", fn := fun _ => fun
  | [d1, d2] => { results := [.lit (.bool true)], args := [d1, d2] }
  | _ => none }
def treesOneRow : OpenClaim := { program := "ytdealcfgobobiaa", sum := "2a8b122af1145a785ecac81c5726fc5d7c432d7d3845dde89e8503b012f5938e", func := "thicket/thicketlaw07.TreesOne", spec := "treesOne", inPlace := ["math.Float64bits", "math.Float64frombits"], unfollowed := true, recurses := true, apart := false }
def TreesOneSaid : Prop := treesOneRow.holds Try.pinned (OpenSpec.ofChange treesOneSpec)

/-- ITS FALSE NEIGHBOUR: 'it returns false'. Refute it at one input. -/
def treesOneWrong : ChangeSpec := { name := "treesOne", fn := fun _ => fun
  | [d1, d2] => { results := [.lit (.bool false)], args := [d1, d2] }
  | _ => none }
def TreesOneWrongFalsely : Prop := treesOneRow.holds Try.pinned (OpenSpec.ofChange treesOneWrong)

/-- 'thicketlaw07.TreesCopies': WHATEVER THE INPUT: true; the input reads as it did. -/
def treesCopiesSpec : ChangeSpec := { name := "treesCopies", fn := fun _ => fun
  | [d] => { results := [.lit (.bool true)], args := [d] }
  | _ => none }
def treesCopiesRow : OpenClaim := { program := "ytdealcfgobobiaa", sum := "2a8b122af1145a785ecac81c5726fc5d7c432d7d3845dde89e8503b012f5938e", func := "thicket/thicketlaw07.TreesCopies", spec := "treesCopies", inPlace := ["math.Float64bits", "math.Float64frombits"], unfollowed := true, recurses := true, apart := false }
def TreesCopiesSaid : Prop := treesCopiesRow.holds Try.pinned (OpenSpec.ofChange treesCopiesSpec)

/-- ITS FALSE NEIGHBOUR: 'it returns false'. Refute it at one input. -/
def treesCopiesWrong : ChangeSpec := { name := "treesCopies", fn := fun _ => fun
  | [d] => { results := [.lit (.bool false)], args := [d] }
  | _ => none }
def TreesCopiesWrongFalsely : Prop := treesCopiesRow.holds Try.pinned (OpenSpec.ofChange treesCopiesWrong)

/-- 'thicketlaw07.TreesCanons': WHATEVER THE INPUT: true; the input reads as it did. -/
def treesCanonsSpec : ChangeSpec := { name := "treesCanons", fn := fun _ => fun
  | [d1, d2] => { results := [.lit (.bool true)], args := [d1, d2] }
  | _ => none }
def treesCanonsRow : OpenClaim := { program := "ytdealcfgobobiaa", sum := "2a8b122af1145a785ecac81c5726fc5d7c432d7d3845dde89e8503b012f5938e", func := "thicket/thicketlaw07.TreesCanons", spec := "treesCanons", inPlace := ["math.Float64bits", "math.Float64frombits"], unfollowed := true, recurses := true, apart := false }
def TreesCanonsSaid : Prop := treesCanonsRow.holds Try.pinned (OpenSpec.ofChange treesCanonsSpec)

/-- ITS FALSE NEIGHBOUR: 'it returns false'. Refute it at one input. -/
def treesCanonsWrong : ChangeSpec := { name := "treesCanons", fn := fun _ => fun
  | [d1, d2] => { results := [.lit (.bool false)], args := [d1, d2] }
  | _ => none }
def TreesCanonsWrongFalsely : Prop := treesCanonsRow.holds Try.pinned (OpenSpec.ofChange treesCanonsWrong)

/- THE SECOND FORM. 'bulk': how many values and letters a reading holds, each counted each time it is reached (what is shared counts as often as it is met; a slice's spare places count too). A statement '..UptoSaid' is the law's where the arguments, and the package variables that the reading takes, are together of bulk at most 1048576: NARROWER than '..Said'. Prove '..Said' where nothing that the law and all that it calls make is longer than what came in: it says more and counts as full. Else prove '..UptoSaid'. A law counts once. -/
mutual
def uptoBulk {H : Type} : DataW H → Nat
  | .lit (.string bytes) => bytes.length + 1
  | .lit _ => 1
  | .nil => 1
  | .ptr d => uptoBulk d + 1
  | .slice elems spare => uptoBulkAll elems + uptoBulkAll spare + 1
  | .agg parts => uptoBulkAll parts + 1
  | .iface _ d => uptoBulk d + 1
  | .map entries => uptoBulkEntries entries + 1
  | .held _ => 1
def uptoBulkAll {H : Type} : List (DataW H) → Nat
  | [] => 0
  | d :: r => uptoBulk d + uptoBulkAll r
def uptoBulkEntries {H : Type} : List (Lit × DataW H) → Nat
  | [] => 0
  | x :: r => uptoBulkEntry x + uptoBulkEntries r
def uptoBulkEntry {H : Type} : Lit × DataW H → Nat
  | (.string bytes, d) => bytes.length + uptoBulk d + 1
  | (_, d) => uptoBulk d + 1
 end
def uptoSmall : (H : Type) → List (DataW H) → Bool := fun _ ds => decide (uptoBulkAll ds ≤ 1048576)
def OpenSpec.upto (s : _root_.Go.ChangeSpec) : _root_.Go.OpenSpec := { _root_.Go.OpenSpec.ofChange s with cond := some uptoSmall }

/-- 'thicketlaw07.TreesGoes', WHERE WHAT IT READS IS OF BULK AT MOST 1048576: true; the input reads as it did. -/
def treesGoesUptoRow : OpenClaim := { program := "ytdealcfgobobiaa", sum := "2a8b122af1145a785ecac81c5726fc5d7c432d7d3845dde89e8503b012f5938e", func := "thicket/thicketlaw07.TreesGoes", spec := "treesGoes", inPlace := ["math.Float64bits", "math.Float64frombits"], unfollowed := true, recurses := true, apart := false, narrowed := true }
def TreesGoesUptoSaid : Prop := treesGoesUptoRow.holds Try.pinned (OpenSpec.upto treesGoesSpec)

/-- 'thicketlaw07.TreesWays', WHERE WHAT IT READS IS OF BULK AT MOST 1048576: true; the input reads as it did. -/
def treesWaysUptoRow : OpenClaim := { program := "ytdealcfgobobiaa", sum := "2a8b122af1145a785ecac81c5726fc5d7c432d7d3845dde89e8503b012f5938e", func := "thicket/thicketlaw07.TreesWays", spec := "treesWays", inPlace := ["math.Float64bits", "math.Float64frombits"], unfollowed := true, recurses := true, apart := false, narrowed := true }
def TreesWaysUptoSaid : Prop := treesWaysUptoRow.holds Try.pinned (OpenSpec.upto treesWaysSpec)

/-- 'thicketlaw07.TreesScores', WHERE WHAT IT READS IS OF BULK AT MOST 1048576: true; the input reads as it did. -/
def treesScoresUptoRow : OpenClaim := { program := "ytdealcfgobobiaa", sum := "2a8b122af1145a785ecac81c5726fc5d7c432d7d3845dde89e8503b012f5938e", func := "thicket/thicketlaw07.TreesScores", spec := "treesScores", inPlace := ["math.Float64bits", "math.Float64frombits"], unfollowed := true, recurses := true, apart := false, narrowed := true }
def TreesScoresUptoSaid : Prop := treesScoresUptoRow.holds Try.pinned (OpenSpec.upto treesScoresSpec)

/-- 'thicketlaw07.TreesShapes', WHERE WHAT IT READS IS OF BULK AT MOST 1048576: true; the input reads as it did. -/
def treesShapesUptoRow : OpenClaim := { program := "ytdealcfgobobiaa", sum := "2a8b122af1145a785ecac81c5726fc5d7c432d7d3845dde89e8503b012f5938e", func := "thicket/thicketlaw07.TreesShapes", spec := "treesShapes", inPlace := ["math.Float64bits", "math.Float64frombits"], unfollowed := true, recurses := true, apart := false, narrowed := true }
def TreesShapesUptoSaid : Prop := treesShapesUptoRow.holds Try.pinned (OpenSpec.upto treesShapesSpec)

/-- 'thicketlaw07.TreesSums', WHERE WHAT IT READS IS OF BULK AT MOST 1048576: true; the input reads as it did. -/
def treesSumsUptoRow : OpenClaim := { program := "ytdealcfgobobiaa", sum := "2a8b122af1145a785ecac81c5726fc5d7c432d7d3845dde89e8503b012f5938e", func := "thicket/thicketlaw07.TreesSums", spec := "treesSums", inPlace := ["math.Float64bits", "math.Float64frombits"], unfollowed := true, recurses := true, apart := false, narrowed := true }
def TreesSumsUptoSaid : Prop := treesSumsUptoRow.holds Try.pinned (OpenSpec.upto treesSumsSpec)

/-- 'thicketlaw07.TreesOwn', WHERE WHAT IT READS IS OF BULK AT MOST 1048576: true; the input reads as it did. -/
def treesOwnUptoRow : OpenClaim := { program := "ytdealcfgobobiaa", sum := "2a8b122af1145a785ecac81c5726fc5d7c432d7d3845dde89e8503b012f5938e", func := "thicket/thicketlaw07.TreesOwn", spec := "treesOwn", inPlace := ["math.Float64bits", "math.Float64frombits"], unfollowed := true, recurses := true, apart := false, narrowed := true }
def TreesOwnUptoSaid : Prop := treesOwnUptoRow.holds Try.pinned (OpenSpec.upto treesOwnSpec)

/-- 'thicketlaw07.TreesOne', WHERE WHAT IT READS IS OF BULK AT MOST 1048576: true; the input reads as it did. -/
def treesOneUptoRow : OpenClaim := { program := "ytdealcfgobobiaa", sum := "2a8b122af1145a785ecac81c5726fc5d7c432d7d3845dde89e8503b012f5938e", func := "thicket/thicketlaw07.TreesOne", spec := "treesOne", inPlace := ["math.Float64bits", "math.Float64frombits"], unfollowed := true, recurses := true, apart := false, narrowed := true }
def TreesOneUptoSaid : Prop := treesOneUptoRow.holds Try.pinned (OpenSpec.upto treesOneSpec)

/-- 'thicketlaw07.TreesCopies', WHERE WHAT IT READS IS OF BULK AT MOST 1048576: true; the input reads as it did. -/
def treesCopiesUptoRow : OpenClaim := { program := "ytdealcfgobobiaa", sum := "2a8b122af1145a785ecac81c5726fc5d7c432d7d3845dde89e8503b012f5938e", func := "thicket/thicketlaw07.TreesCopies", spec := "treesCopies", inPlace := ["math.Float64bits", "math.Float64frombits"], unfollowed := true, recurses := true, apart := false, narrowed := true }
def TreesCopiesUptoSaid : Prop := treesCopiesUptoRow.holds Try.pinned (OpenSpec.upto treesCopiesSpec)

/-- 'thicketlaw07.TreesCanons', WHERE WHAT IT READS IS OF BULK AT MOST 1048576: true; the input reads as it did. -/
def treesCanonsUptoRow : OpenClaim := { program := "ytdealcfgobobiaa", sum := "2a8b122af1145a785ecac81c5726fc5d7c432d7d3845dde89e8503b012f5938e", func := "thicket/thicketlaw07.TreesCanons", spec := "treesCanons", inPlace := ["math.Float64bits", "math.Float64frombits"], unfollowed := true, recurses := true, apart := false, narrowed := true }
def TreesCanonsUptoSaid : Prop := treesCanonsUptoRow.holds Try.pinned (OpenSpec.upto treesCanonsSpec)

end Rows
end Go.Proofs.Ytdealcfgobobiaa
