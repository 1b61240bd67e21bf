/-
  NARROWER THAN 'FOR EVERY INPUT', by the rows' own cells (each row's printed sentence says how): BitsMade: laid · BitsMeets: laid · BitsTexts: laid · BitsWords: laid · BitsRuns: laid · BitsAsks: laid · BitsBack: laid · BitsOwn: laid · BitsLaws: laid.
  DERIVED. THE GIVEN ROWS OF THIS SEAT. 9 by the template 'for every input the law returns true; each argument reads behind the call as it read before'; 0 by the template 'total and deterministic' (their statements: YtabmjhhjbifagaaDoorTotals.lean).
  GIVEN WITH THE SEED: the statements are not yours to turn. If you find one false, say at which input.
  Laid BY PROGRAM, IN A SANDBOX (cutbox-rows.mjs): the forced cells as the released guide's own fill.sh prints them over the translation 8ab5c458fa21086c… (all of the seat's roots in one cut). By AI agents, Wed Nov 11 2026. No macro, syntax, notation, axiom, sorry.
-/
import Derived.Test.YtabmjhhjbifagaaDoorChecked
import GoSem.Claim
import GoSem.ClaimJoined
import GoSem.ClaimMapViews
import Derived.JoinedTies
import Derived.KernelRfl
namespace Go.Proofs.YtabmjhhjbifagaaDoor
/- THE CELL 'sum', in the pinned program and in every row, IS THE sha256 OF THE DUMP (.gsa) THAT YtabmjhhjbifagaaDoorProg.lean LOADS. Nothing in Lean hashes anything: it is a label: what it is worth is what the hold of that sum in a sandbox is worth. -/
noncomputable def Tryd.pinned : Pinned := { name := "ytabmjhhjbifagaadoor", sum := "8ab5c458fa21086c15b7b8424dfae6de3bc7cf4419e46edb4b66d690d3356771", checked := Tryd.checked }
namespace Rows
def none {H : Type} : Left H := { results := [], args := [] }

/- WHAT THE LISTED PACKAGE-LEVEL VARIABLES READ AS WHEN THE CALL BEGINS. Each datum BY PROGRAM (the guide's laid-datum.mjs) off the statement by which the dump's own 'gosem.cut.vars' lays the variable. In a bare row this is a premise. The card (YtabmjhhjbifagaaDoorCards.lean) ties it to the program's text. -/
def laid_math_bits_deBruijn64tab {H : Type} : DataW H := .agg [.lit (.int .u8 0), .lit (.int .u8 1), .lit (.int .u8 56), .lit (.int .u8 2), .lit (.int .u8 57), .lit (.int .u8 49), .lit (.int .u8 28), .lit (.int .u8 3), .lit (.int .u8 61), .lit (.int .u8 58), .lit (.int .u8 42), .lit (.int .u8 50), .lit (.int .u8 38), .lit (.int .u8 29), .lit (.int .u8 17), .lit (.int .u8 4), .lit (.int .u8 62), .lit (.int .u8 47), .lit (.int .u8 59), .lit (.int .u8 36), .lit (.int .u8 45), .lit (.int .u8 43), .lit (.int .u8 51), .lit (.int .u8 22), .lit (.int .u8 53), .lit (.int .u8 39), .lit (.int .u8 33), .lit (.int .u8 30), .lit (.int .u8 24), .lit (.int .u8 18), .lit (.int .u8 12), .lit (.int .u8 5), .lit (.int .u8 63), .lit (.int .u8 55), .lit (.int .u8 48), .lit (.int .u8 27), .lit (.int .u8 60), .lit (.int .u8 41), .lit (.int .u8 37), .lit (.int .u8 16), .lit (.int .u8 46), .lit (.int .u8 35), .lit (.int .u8 44), .lit (.int .u8 21), .lit (.int .u8 52), .lit (.int .u8 32), .lit (.int .u8 23), .lit (.int .u8 11), .lit (.int .u8 54), .lit (.int .u8 26), .lit (.int .u8 40), .lit (.int .u8 15), .lit (.int .u8 34), .lit (.int .u8 20), .lit (.int .u8 31), .lit (.int .u8 10), .lit (.int .u8 25), .lit (.int .u8 14), .lit (.int .u8 19), .lit (.int .u8 9), .lit (.int .u8 13), .lit (.int .u8 8), .lit (.int .u8 7), .lit (.int .u8 6)]

/-- 'thicketlaw05.BitsMade': WHATEVER THE INPUT: true; the input reads as it did. -/
def bitsMadeSpec : ChangeSpec := { name := "bitsMade", fn := fun _ => fun
  | [d1, d2, d3] => { results := [.lit (.bool true)], args := [d1, d2, d3] }
  | _ => none }
def bitsMadeRow : OpenClaim := { program := "ytabmjhhjbifagaadoor", sum := "8ab5c458fa21086c15b7b8424dfae6de3bc7cf4419e46edb4b66d690d3356771", func := "thicket/thicketlaw05.BitsMade", spec := "bitsMade", named := ["math/bits.deBruijn64tab"], apart := false, laid := [("math/bits.deBruijn64tab", laid_math_bits_deBruijn64tab)] }
def BitsMadeSaid : Prop := bitsMadeRow.holds Tryd.pinned (OpenSpec.ofChange bitsMadeSpec)

/-- ITS FALSE NEIGHBOUR: 'it returns false'. Refute it at one input. -/
def bitsMadeWrong : ChangeSpec := { name := "bitsMade", fn := fun _ => fun
  | [d1, d2, d3] => { results := [.lit (.bool false)], args := [d1, d2, d3] }
  | _ => none }
def BitsMadeWrongFalsely : Prop := bitsMadeRow.holds Tryd.pinned (OpenSpec.ofChange bitsMadeWrong)

/-- 'thicketlaw05.BitsMeets': WHATEVER THE INPUT: true; the input reads as it did. -/
def bitsMeetsSpec : ChangeSpec := { name := "bitsMeets", fn := fun _ => fun
  | [d1, d2, d3, d4, d5] => { results := [.lit (.bool true)], args := [d1, d2, d3, d4, d5] }
  | _ => none }
def bitsMeetsRow : OpenClaim := { program := "ytabmjhhjbifagaadoor", sum := "8ab5c458fa21086c15b7b8424dfae6de3bc7cf4419e46edb4b66d690d3356771", func := "thicket/thicketlaw05.BitsMeets", spec := "bitsMeets", named := ["math/bits.deBruijn64tab"], apart := false, laid := [("math/bits.deBruijn64tab", laid_math_bits_deBruijn64tab)] }
def BitsMeetsSaid : Prop := bitsMeetsRow.holds Tryd.pinned (OpenSpec.ofChange bitsMeetsSpec)

/-- ITS FALSE NEIGHBOUR: 'it returns false'. Refute it at one input. -/
def bitsMeetsWrong : ChangeSpec := { name := "bitsMeets", fn := fun _ => fun
  | [d1, d2, d3, d4, d5] => { results := [.lit (.bool false)], args := [d1, d2, d3, d4, d5] }
  | _ => none }
def BitsMeetsWrongFalsely : Prop := bitsMeetsRow.holds Tryd.pinned (OpenSpec.ofChange bitsMeetsWrong)

/-- 'thicketlaw05.BitsTexts': WHATEVER THE INPUT: true; the input reads as it did. -/
def bitsTextsSpec : ChangeSpec := { name := "bitsTexts", fn := fun _ => fun
  | [d1, d2, d3] => { results := [.lit (.bool true)], args := [d1, d2, d3] }
  | _ => none }
def bitsTextsRow : OpenClaim := { program := "ytabmjhhjbifagaadoor", sum := "8ab5c458fa21086c15b7b8424dfae6de3bc7cf4419e46edb4b66d690d3356771", func := "thicket/thicketlaw05.BitsTexts", spec := "bitsTexts", named := ["math/bits.deBruijn64tab"], apart := false, laid := [("math/bits.deBruijn64tab", laid_math_bits_deBruijn64tab)] }
def BitsTextsSaid : Prop := bitsTextsRow.holds Tryd.pinned (OpenSpec.ofChange bitsTextsSpec)

/-- ITS FALSE NEIGHBOUR: 'it returns false'. Refute it at one input. -/
def bitsTextsWrong : ChangeSpec := { name := "bitsTexts", fn := fun _ => fun
  | [d1, d2, d3] => { results := [.lit (.bool false)], args := [d1, d2, d3] }
  | _ => none }
def BitsTextsWrongFalsely : Prop := bitsTextsRow.holds Tryd.pinned (OpenSpec.ofChange bitsTextsWrong)

/-- 'thicketlaw05.BitsWords': WHATEVER THE INPUT: true; the input reads as it did. -/
def bitsWordsSpec : ChangeSpec := { name := "bitsWords", fn := fun _ => fun
  | [d1, d2] => { results := [.lit (.bool true)], args := [d1, d2] }
  | _ => none }
def bitsWordsRow : OpenClaim := { program := "ytabmjhhjbifagaadoor", sum := "8ab5c458fa21086c15b7b8424dfae6de3bc7cf4419e46edb4b66d690d3356771", func := "thicket/thicketlaw05.BitsWords", spec := "bitsWords", unfollowed := true, recurses := true, named := ["math/bits.deBruijn64tab"], apart := false, laid := [("math/bits.deBruijn64tab", laid_math_bits_deBruijn64tab)] }
def BitsWordsSaid : Prop := bitsWordsRow.holds Tryd.pinned (OpenSpec.ofChange bitsWordsSpec)

/-- ITS FALSE NEIGHBOUR: 'it returns false'. Refute it at one input. -/
def bitsWordsWrong : ChangeSpec := { name := "bitsWords", fn := fun _ => fun
  | [d1, d2] => { results := [.lit (.bool false)], args := [d1, d2] }
  | _ => none }
def BitsWordsWrongFalsely : Prop := bitsWordsRow.holds Tryd.pinned (OpenSpec.ofChange bitsWordsWrong)

/-- 'thicketlaw05.BitsRuns': WHATEVER THE INPUT: true; the input reads as it did. -/
def bitsRunsSpec : ChangeSpec := { name := "bitsRuns", fn := fun _ => fun
  | [d1, d2, d3] => { results := [.lit (.bool true)], args := [d1, d2, d3] }
  | _ => none }
def bitsRunsRow : OpenClaim := { program := "ytabmjhhjbifagaadoor", sum := "8ab5c458fa21086c15b7b8424dfae6de3bc7cf4419e46edb4b66d690d3356771", func := "thicket/thicketlaw05.BitsRuns", spec := "bitsRuns", named := ["math/bits.deBruijn64tab"], apart := false, laid := [("math/bits.deBruijn64tab", laid_math_bits_deBruijn64tab)] }
def BitsRunsSaid : Prop := bitsRunsRow.holds Tryd.pinned (OpenSpec.ofChange bitsRunsSpec)

/-- ITS FALSE NEIGHBOUR: 'it returns false'. Refute it at one input. -/
def bitsRunsWrong : ChangeSpec := { name := "bitsRuns", fn := fun _ => fun
  | [d1, d2, d3] => { results := [.lit (.bool false)], args := [d1, d2, d3] }
  | _ => none }
def BitsRunsWrongFalsely : Prop := bitsRunsRow.holds Tryd.pinned (OpenSpec.ofChange bitsRunsWrong)

/-- 'thicketlaw05.BitsAsks': WHATEVER THE INPUT: true; the input reads as it did. -/
def bitsAsksSpec : ChangeSpec := { name := "bitsAsks", fn := fun _ => fun
  | [d1, d2, d3] => { results := [.lit (.bool true)], args := [d1, d2, d3] }
  | _ => none }
def bitsAsksRow : OpenClaim := { program := "ytabmjhhjbifagaadoor", sum := "8ab5c458fa21086c15b7b8424dfae6de3bc7cf4419e46edb4b66d690d3356771", func := "thicket/thicketlaw05.BitsAsks", spec := "bitsAsks", named := ["math/bits.deBruijn64tab"], apart := false, laid := [("math/bits.deBruijn64tab", laid_math_bits_deBruijn64tab)] }
def BitsAsksSaid : Prop := bitsAsksRow.holds Tryd.pinned (OpenSpec.ofChange bitsAsksSpec)

/-- ITS FALSE NEIGHBOUR: 'it returns false'. Refute it at one input. -/
def bitsAsksWrong : ChangeSpec := { name := "bitsAsks", fn := fun _ => fun
  | [d1, d2, d3] => { results := [.lit (.bool false)], args := [d1, d2, d3] }
  | _ => none }
def BitsAsksWrongFalsely : Prop := bitsAsksRow.holds Tryd.pinned (OpenSpec.ofChange bitsAsksWrong)

/-- 'thicketlaw05.BitsBack': WHATEVER THE INPUT: true; the input reads as it did. -/
def bitsBackSpec : ChangeSpec := { name := "bitsBack", fn := fun _ => fun
  | [d1, d2] => { results := [.lit (.bool true)], args := [d1, d2] }
  | _ => none }
def bitsBackRow : OpenClaim := { program := "ytabmjhhjbifagaadoor", sum := "8ab5c458fa21086c15b7b8424dfae6de3bc7cf4419e46edb4b66d690d3356771", func := "thicket/thicketlaw05.BitsBack", spec := "bitsBack", named := ["math/bits.deBruijn64tab"], apart := false, laid := [("math/bits.deBruijn64tab", laid_math_bits_deBruijn64tab)] }
def BitsBackSaid : Prop := bitsBackRow.holds Tryd.pinned (OpenSpec.ofChange bitsBackSpec)

/-- ITS FALSE NEIGHBOUR: 'it returns false'. Refute it at one input. -/
def bitsBackWrong : ChangeSpec := { name := "bitsBack", fn := fun _ => fun
  | [d1, d2] => { results := [.lit (.bool false)], args := [d1, d2] }
  | _ => none }
def BitsBackWrongFalsely : Prop := bitsBackRow.holds Tryd.pinned (OpenSpec.ofChange bitsBackWrong)

/-- 'thicketlaw05.BitsOwn': WHATEVER THE INPUT: true; the input reads as it did. -/
def bitsOwnSpec : ChangeSpec := { name := "bitsOwn", fn := fun _ => fun
  | [d1, d2] => { results := [.lit (.bool true)], args := [d1, d2] }
  | _ => none }
def bitsOwnRow : OpenClaim := { program := "ytabmjhhjbifagaadoor", sum := "8ab5c458fa21086c15b7b8424dfae6de3bc7cf4419e46edb4b66d690d3356771", func := "thicket/thicketlaw05.BitsOwn", spec := "bitsOwn", unfollowed := true, recurses := true, named := ["math/bits.deBruijn64tab"], apart := false, laid := [("math/bits.deBruijn64tab", laid_math_bits_deBruijn64tab)] }
def BitsOwnSaid : Prop := bitsOwnRow.holds Tryd.pinned (OpenSpec.ofChange bitsOwnSpec)

/-- ITS FALSE NEIGHBOUR: 'it returns false'. Refute it at one input. -/
def bitsOwnWrong : ChangeSpec := { name := "bitsOwn", fn := fun _ => fun
  | [d1, d2] => { results := [.lit (.bool false)], args := [d1, d2] }
  | _ => none }
def BitsOwnWrongFalsely : Prop := bitsOwnRow.holds Tryd.pinned (OpenSpec.ofChange bitsOwnWrong)

/-- 'thicketlaw05.BitsLaws': WHATEVER THE INPUT: true; the input reads as it did. -/
def bitsLawsSpec : ChangeSpec := { name := "bitsLaws", fn := fun _ => fun
  | [d1, d2, d3] => { results := [.lit (.bool true)], args := [d1, d2, d3] }
  | _ => none }
def bitsLawsRow : OpenClaim := { program := "ytabmjhhjbifagaadoor", sum := "8ab5c458fa21086c15b7b8424dfae6de3bc7cf4419e46edb4b66d690d3356771", func := "thicket/thicketlaw05.BitsLaws", spec := "bitsLaws", unfollowed := true, recurses := true, named := ["math/bits.deBruijn64tab"], apart := false, laid := [("math/bits.deBruijn64tab", laid_math_bits_deBruijn64tab)] }
def BitsLawsSaid : Prop := bitsLawsRow.holds Tryd.pinned (OpenSpec.ofChange bitsLawsSpec)

/-- ITS FALSE NEIGHBOUR: 'it returns false'. Refute it at one input. -/
def bitsLawsWrong : ChangeSpec := { name := "bitsLaws", fn := fun _ => fun
  | [d1, d2, d3] => { results := [.lit (.bool false)], args := [d1, d2, d3] }
  | _ => none }
def BitsLawsWrongFalsely : Prop := bitsLawsRow.holds Tryd.pinned (OpenSpec.ofChange bitsLawsWrong)

/- THE SECOND FORM. 'bulk': how many values and letters a reading holds, each counted each time it is reached (what is shared counts as often as it is met; a slice's spare places count too). A statement '..UptoSaid' is the law's where the arguments, and the package variables that the reading takes, are together of bulk at most 1048576: NARROWER than '..Said'. Prove '..Said' where nothing that the law and all that it calls make is longer than what came in: it says more and counts as full. Else prove '..UptoSaid'. A law counts once. -/
mutual
def uptoBulk {H : Type} : DataW H → Nat
  | .lit (.string bytes) => bytes.length + 1
  | .lit _ => 1
  | .nil => 1
  | .ptr d => uptoBulk d + 1
  | .slice elems spare => uptoBulkAll elems + uptoBulkAll spare + 1
  | .agg parts => uptoBulkAll parts + 1
  | .iface _ d => uptoBulk d + 1
  | .map entries => uptoBulkEntries entries + 1
  | .held _ => 1
def uptoBulkAll {H : Type} : List (DataW H) → Nat
  | [] => 0
  | d :: r => uptoBulk d + uptoBulkAll r
def uptoBulkEntries {H : Type} : List (Lit × DataW H) → Nat
  | [] => 0
  | x :: r => uptoBulkEntry x + uptoBulkEntries r
def uptoBulkEntry {H : Type} : Lit × DataW H → Nat
  | (.string bytes, d) => bytes.length + uptoBulk d + 1
  | (_, d) => uptoBulk d + 1
 end
def uptoSmall : (H : Type) → List (DataW H) → Bool := fun _ ds => decide (uptoBulkAll ds ≤ 1048576)
def OpenSpec.upto (s : _root_.Go.ChangeSpec) : _root_.Go.OpenSpec := { _root_.Go.OpenSpec.ofChange s with cond := some uptoSmall }

/-- 'thicketlaw05.BitsMade', WHERE WHAT IT READS IS OF BULK AT MOST 1048576: true; the input reads as it did. -/
def bitsMadeUptoRow : OpenClaim := { program := "ytabmjhhjbifagaadoor", sum := "8ab5c458fa21086c15b7b8424dfae6de3bc7cf4419e46edb4b66d690d3356771", func := "thicket/thicketlaw05.BitsMade", spec := "bitsMade", named := ["math/bits.deBruijn64tab"], apart := false, laid := [("math/bits.deBruijn64tab", laid_math_bits_deBruijn64tab)], narrowed := true }
def BitsMadeUptoSaid : Prop := bitsMadeUptoRow.holds Tryd.pinned (OpenSpec.upto bitsMadeSpec)

/-- 'thicketlaw05.BitsMeets', WHERE WHAT IT READS IS OF BULK AT MOST 1048576: true; the input reads as it did. -/
def bitsMeetsUptoRow : OpenClaim := { program := "ytabmjhhjbifagaadoor", sum := "8ab5c458fa21086c15b7b8424dfae6de3bc7cf4419e46edb4b66d690d3356771", func := "thicket/thicketlaw05.BitsMeets", spec := "bitsMeets", named := ["math/bits.deBruijn64tab"], apart := false, laid := [("math/bits.deBruijn64tab", laid_math_bits_deBruijn64tab)], narrowed := true }
def BitsMeetsUptoSaid : Prop := bitsMeetsUptoRow.holds Tryd.pinned (OpenSpec.upto bitsMeetsSpec)

/-- 'thicketlaw05.BitsTexts', WHERE WHAT IT READS IS OF BULK AT MOST 1048576: true; the input reads as it did. -/
def bitsTextsUptoRow : OpenClaim := { program := "ytabmjhhjbifagaadoor", sum := "8ab5c458fa21086c15b7b8424dfae6de3bc7cf4419e46edb4b66d690d3356771", func := "thicket/thicketlaw05.BitsTexts", spec := "bitsTexts", named := ["math/bits.deBruijn64tab"], apart := false, laid := [("math/bits.deBruijn64tab", laid_math_bits_deBruijn64tab)], narrowed := true }
def BitsTextsUptoSaid : Prop := bitsTextsUptoRow.holds Tryd.pinned (OpenSpec.upto bitsTextsSpec)

/-- 'thicketlaw05.BitsWords', WHERE WHAT IT READS IS OF BULK AT MOST 1048576: true; the input reads as it did. -/
def bitsWordsUptoRow : OpenClaim := { program := "ytabmjhhjbifagaadoor", sum := "8ab5c458fa21086c15b7b8424dfae6de3bc7cf4419e46edb4b66d690d3356771", func := "thicket/thicketlaw05.BitsWords", spec := "bitsWords", unfollowed := true, recurses := true, named := ["math/bits.deBruijn64tab"], apart := false, laid := [("math/bits.deBruijn64tab", laid_math_bits_deBruijn64tab)], narrowed := true }
def BitsWordsUptoSaid : Prop := bitsWordsUptoRow.holds Tryd.pinned (OpenSpec.upto bitsWordsSpec)

/-- 'thicketlaw05.BitsRuns', WHERE WHAT IT READS IS OF BULK AT MOST 1048576: true; the input reads as it did. -/
def bitsRunsUptoRow : OpenClaim := { program := "ytabmjhhjbifagaadoor", sum := "8ab5c458fa21086c15b7b8424dfae6de3bc7cf4419e46edb4b66d690d3356771", func := "thicket/thicketlaw05.BitsRuns", spec := "bitsRuns", named := ["math/bits.deBruijn64tab"], apart := false, laid := [("math/bits.deBruijn64tab", laid_math_bits_deBruijn64tab)], narrowed := true }
def BitsRunsUptoSaid : Prop := bitsRunsUptoRow.holds Tryd.pinned (OpenSpec.upto bitsRunsSpec)

/-- 'thicketlaw05.BitsAsks', WHERE WHAT IT READS IS OF BULK AT MOST 1048576: true; the input reads as it did. -/
def bitsAsksUptoRow : OpenClaim := { program := "ytabmjhhjbifagaadoor", sum := "8ab5c458fa21086c15b7b8424dfae6de3bc7cf4419e46edb4b66d690d3356771", func := "thicket/thicketlaw05.BitsAsks", spec := "bitsAsks", named := ["math/bits.deBruijn64tab"], apart := false, laid := [("math/bits.deBruijn64tab", laid_math_bits_deBruijn64tab)], narrowed := true }
def BitsAsksUptoSaid : Prop := bitsAsksUptoRow.holds Tryd.pinned (OpenSpec.upto bitsAsksSpec)

/-- 'thicketlaw05.BitsBack', WHERE WHAT IT READS IS OF BULK AT MOST 1048576: true; the input reads as it did. -/
def bitsBackUptoRow : OpenClaim := { program := "ytabmjhhjbifagaadoor", sum := "8ab5c458fa21086c15b7b8424dfae6de3bc7cf4419e46edb4b66d690d3356771", func := "thicket/thicketlaw05.BitsBack", spec := "bitsBack", named := ["math/bits.deBruijn64tab"], apart := false, laid := [("math/bits.deBruijn64tab", laid_math_bits_deBruijn64tab)], narrowed := true }
def BitsBackUptoSaid : Prop := bitsBackUptoRow.holds Tryd.pinned (OpenSpec.upto bitsBackSpec)

/-- 'thicketlaw05.BitsOwn', WHERE WHAT IT READS IS OF BULK AT MOST 1048576: true; the input reads as it did. -/
def bitsOwnUptoRow : OpenClaim := { program := "ytabmjhhjbifagaadoor", sum := "8ab5c458fa21086c15b7b8424dfae6de3bc7cf4419e46edb4b66d690d3356771", func := "thicket/thicketlaw05.BitsOwn", spec := "bitsOwn", unfollowed := true, recurses := true, named := ["math/bits.deBruijn64tab"], apart := false, laid := [("math/bits.deBruijn64tab", laid_math_bits_deBruijn64tab)], narrowed := true }
def BitsOwnUptoSaid : Prop := bitsOwnUptoRow.holds Tryd.pinned (OpenSpec.upto bitsOwnSpec)

/-- 'thicketlaw05.BitsLaws', WHERE WHAT IT READS IS OF BULK AT MOST 1048576: true; the input reads as it did. -/
def bitsLawsUptoRow : OpenClaim := { program := "ytabmjhhjbifagaadoor", sum := "8ab5c458fa21086c15b7b8424dfae6de3bc7cf4419e46edb4b66d690d3356771", func := "thicket/thicketlaw05.BitsLaws", spec := "bitsLaws", unfollowed := true, recurses := true, named := ["math/bits.deBruijn64tab"], apart := false, laid := [("math/bits.deBruijn64tab", laid_math_bits_deBruijn64tab)], narrowed := true }
def BitsLawsUptoSaid : Prop := bitsLawsUptoRow.holds Tryd.pinned (OpenSpec.upto bitsLawsSpec)

end Rows
end Go.Proofs.YtabmjhhjbifagaaDoor
