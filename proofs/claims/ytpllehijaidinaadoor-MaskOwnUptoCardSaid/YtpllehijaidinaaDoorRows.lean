/-
  NARROWER THAN 'FOR EVERY INPUT', by the rows' own cells (each row's printed sentence says how): MaskFalse: laid · MaskNested: laid · MaskMarks: laid · MaskOwn: laid · MaskExit: laid · MaskOrder: laid.
  DERIVED. THE GIVEN ROWS OF THIS SEAT. 6 by the template 'for every input the law returns true; each argument reads behind the call as it read before'; 0 by the template 'total and deterministic' (their statements: YtpllehijaidinaaDoorTotals.lean).
  GIVEN WITH THE SEED: the statements are not yours to turn. If you find one false, say at which input.
  Laid BY PROGRAM, IN A SANDBOX (cutbox-rows.mjs): the forced cells as the released guide's own fill.sh prints them over the translation 2f0ca79c0ddb6570… (all of the seat's roots in one cut). By AI agents, Wed Nov 11 2026. No macro, syntax, notation, axiom, sorry.
-/
import Derived.Test.YtpllehijaidinaaDoorChecked
import GoSem.Claim
import GoSem.ClaimJoined
import GoSem.ClaimMapViews
import Derived.JoinedTies
import Derived.KernelRfl
namespace Go.Proofs.YtpllehijaidinaaDoor
/- THE CELL 'sum', in the pinned program and in every row, IS THE sha256 OF THE DUMP (.gsa) THAT YtpllehijaidinaaDoorProg.lean LOADS. Nothing in Lean hashes anything: it is a label: what it is worth is what the hold of that sum in a sandbox is worth. -/
noncomputable def Tryd.pinned : Pinned := { name := "ytpllehijaidinaadoor", sum := "2f0ca79c0ddb6570dfe63b14b34bcba98772cf36a0c92776c61f726f88cdacc2", checked := Tryd.checked }
namespace Rows
def none {H : Type} : Left H := { results := [], args := [] }

/- WHAT THE LISTED PACKAGE-LEVEL VARIABLES READ AS WHEN THE CALL BEGINS. Each datum BY PROGRAM (the guide's laid-datum.mjs) off the statement by which the dump's own 'gosem.cut.vars' lays the variable. In a bare row this is a premise. The card (YtpllehijaidinaaDoorCards.lean) ties it to the program's text. -/
def laid_math_bits_deBruijn64tab {H : Type} : DataW H := .agg [.lit (.int .u8 0), .lit (.int .u8 1), .lit (.int .u8 56), .lit (.int .u8 2), .lit (.int .u8 57), .lit (.int .u8 49), .lit (.int .u8 28), .lit (.int .u8 3), .lit (.int .u8 61), .lit (.int .u8 58), .lit (.int .u8 42), .lit (.int .u8 50), .lit (.int .u8 38), .lit (.int .u8 29), .lit (.int .u8 17), .lit (.int .u8 4), .lit (.int .u8 62), .lit (.int .u8 47), .lit (.int .u8 59), .lit (.int .u8 36), .lit (.int .u8 45), .lit (.int .u8 43), .lit (.int .u8 51), .lit (.int .u8 22), .lit (.int .u8 53), .lit (.int .u8 39), .lit (.int .u8 33), .lit (.int .u8 30), .lit (.int .u8 24), .lit (.int .u8 18), .lit (.int .u8 12), .lit (.int .u8 5), .lit (.int .u8 63), .lit (.int .u8 55), .lit (.int .u8 48), .lit (.int .u8 27), .lit (.int .u8 60), .lit (.int .u8 41), .lit (.int .u8 37), .lit (.int .u8 16), .lit (.int .u8 46), .lit (.int .u8 35), .lit (.int .u8 44), .lit (.int .u8 21), .lit (.int .u8 52), .lit (.int .u8 32), .lit (.int .u8 23), .lit (.int .u8 11), .lit (.int .u8 54), .lit (.int .u8 26), .lit (.int .u8 40), .lit (.int .u8 15), .lit (.int .u8 34), .lit (.int .u8 20), .lit (.int .u8 31), .lit (.int .u8 10), .lit (.int .u8 25), .lit (.int .u8 14), .lit (.int .u8 19), .lit (.int .u8 9), .lit (.int .u8 13), .lit (.int .u8 8), .lit (.int .u8 7), .lit (.int .u8 6)]

/-- 'thicketlaw13.MaskFalse': WHATEVER THE INPUT: true; the input reads as it did. -/
def maskFalseSpec : ChangeSpec := { name := "maskFalse", fn := fun _ => fun
  | [d1, d2] => { results := [.lit (.bool true)], args := [d1, d2] }
  | _ => none }
def maskFalseRow : OpenClaim := { program := "ytpllehijaidinaadoor", sum := "2f0ca79c0ddb6570dfe63b14b34bcba98772cf36a0c92776c61f726f88cdacc2", func := "thicket/thicketlaw13.MaskFalse", spec := "maskFalse", inPlace := ["math.Float64bits"], unfollowed := true, recurses := true, named := ["math/bits.deBruijn64tab"], apart := false, laid := [("math/bits.deBruijn64tab", laid_math_bits_deBruijn64tab)] }
def MaskFalseSaid : Prop := maskFalseRow.holds Tryd.pinned (OpenSpec.ofChange maskFalseSpec)

/-- ITS FALSE NEIGHBOUR: 'it returns false'. Refute it at one input. -/
def maskFalseWrong : ChangeSpec := { name := "maskFalse", fn := fun _ => fun
  | [d1, d2] => { results := [.lit (.bool false)], args := [d1, d2] }
  | _ => none }
def MaskFalseWrongFalsely : Prop := maskFalseRow.holds Tryd.pinned (OpenSpec.ofChange maskFalseWrong)

/-- 'thicketlaw13.MaskNested': WHATEVER THE INPUT: true; the input reads as it did. -/
def maskNestedSpec : ChangeSpec := { name := "maskNested", fn := fun _ => fun
  | [d] => { results := [.lit (.bool true)], args := [d] }
  | _ => none }
def maskNestedRow : OpenClaim := { program := "ytpllehijaidinaadoor", sum := "2f0ca79c0ddb6570dfe63b14b34bcba98772cf36a0c92776c61f726f88cdacc2", func := "thicket/thicketlaw13.MaskNested", spec := "maskNested", inPlace := ["math.Float64bits"], unfollowed := true, recurses := true, named := ["math/bits.deBruijn64tab"], apart := false, laid := [("math/bits.deBruijn64tab", laid_math_bits_deBruijn64tab)] }
def MaskNestedSaid : Prop := maskNestedRow.holds Tryd.pinned (OpenSpec.ofChange maskNestedSpec)

/-- ITS FALSE NEIGHBOUR: 'it returns false'. Refute it at one input. -/
def maskNestedWrong : ChangeSpec := { name := "maskNested", fn := fun _ => fun
  | [d] => { results := [.lit (.bool false)], args := [d] }
  | _ => none }
def MaskNestedWrongFalsely : Prop := maskNestedRow.holds Tryd.pinned (OpenSpec.ofChange maskNestedWrong)

/-- 'thicketlaw13.MaskMarks': WHATEVER THE INPUT: true; the input reads as it did. -/
def maskMarksSpec : ChangeSpec := { name := "maskMarks", fn := fun _ => fun
  | [d] => { results := [.lit (.bool true)], args := [d] }
  | _ => none }
def maskMarksRow : OpenClaim := { program := "ytpllehijaidinaadoor", sum := "2f0ca79c0ddb6570dfe63b14b34bcba98772cf36a0c92776c61f726f88cdacc2", func := "thicket/thicketlaw13.MaskMarks", spec := "maskMarks", inPlace := ["math.Float64bits"], unfollowed := true, recurses := true, named := ["math/bits.deBruijn64tab"], apart := false, laid := [("math/bits.deBruijn64tab", laid_math_bits_deBruijn64tab)] }
def MaskMarksSaid : Prop := maskMarksRow.holds Tryd.pinned (OpenSpec.ofChange maskMarksSpec)

/-- ITS FALSE NEIGHBOUR: 'it returns false'. Refute it at one input. -/
def maskMarksWrong : ChangeSpec := { name := "maskMarks", fn := fun _ => fun
  | [d] => { results := [.lit (.bool false)], args := [d] }
  | _ => none }
def MaskMarksWrongFalsely : Prop := maskMarksRow.holds Tryd.pinned (OpenSpec.ofChange maskMarksWrong)

/-- 'thicketlaw13.MaskOwn': WHATEVER THE INPUT: true; the input reads as it did. -/
def maskOwnSpec : ChangeSpec := { name := "maskOwn", fn := fun _ => fun
  | [d1, d2] => { results := [.lit (.bool true)], args := [d1, d2] }
  | _ => none }
def maskOwnRow : OpenClaim := { program := "ytpllehijaidinaadoor", sum := "2f0ca79c0ddb6570dfe63b14b34bcba98772cf36a0c92776c61f726f88cdacc2", func := "thicket/thicketlaw13.MaskOwn", spec := "maskOwn", inPlace := ["math.Float64bits"], unfollowed := true, recurses := true, named := ["math/bits.deBruijn64tab"], apart := false, laid := [("math/bits.deBruijn64tab", laid_math_bits_deBruijn64tab)] }
def MaskOwnSaid : Prop := maskOwnRow.holds Tryd.pinned (OpenSpec.ofChange maskOwnSpec)

/-- ITS FALSE NEIGHBOUR: 'it returns false'. Refute it at one input. -/
def maskOwnWrong : ChangeSpec := { name := "maskOwn", fn := fun _ => fun
  | [d1, d2] => { results := [.lit (.bool false)], args := [d1, d2] }
  | _ => none }
def MaskOwnWrongFalsely : Prop := maskOwnRow.holds Tryd.pinned (OpenSpec.ofChange maskOwnWrong)

/-- 'thicketlaw13.MaskExit': WHATEVER THE INPUT: true; the input reads as it did. -/
def maskExitSpec : ChangeSpec := { name := "maskExit", fn := fun _ => fun
  | [d1, d2] => { results := [.lit (.bool true)], args := [d1, d2] }
  | _ => none }
def maskExitRow : OpenClaim := { program := "ytpllehijaidinaadoor", sum := "2f0ca79c0ddb6570dfe63b14b34bcba98772cf36a0c92776c61f726f88cdacc2", func := "thicket/thicketlaw13.MaskExit", spec := "maskExit", inPlace := ["math.Float64bits"], unfollowed := true, recurses := true, named := ["math/bits.deBruijn64tab"], apart := false, laid := [("math/bits.deBruijn64tab", laid_math_bits_deBruijn64tab)] }
def MaskExitSaid : Prop := maskExitRow.holds Tryd.pinned (OpenSpec.ofChange maskExitSpec)

/-- ITS FALSE NEIGHBOUR: 'it returns false'. Refute it at one input. -/
def maskExitWrong : ChangeSpec := { name := "maskExit", fn := fun _ => fun
  | [d1, d2] => { results := [.lit (.bool false)], args := [d1, d2] }
  | _ => none }
def MaskExitWrongFalsely : Prop := maskExitRow.holds Tryd.pinned (OpenSpec.ofChange maskExitWrong)

/-- 'thicketlaw13.MaskOrder': WHATEVER THE INPUT: true; the input reads as it did. -/
def maskOrderSpec : ChangeSpec := { name := "maskOrder", fn := fun _ => fun
  | [d1, d2, d3] => { results := [.lit (.bool true)], args := [d1, d2, d3] }
  | _ => none }
def maskOrderRow : OpenClaim := { program := "ytpllehijaidinaadoor", sum := "2f0ca79c0ddb6570dfe63b14b34bcba98772cf36a0c92776c61f726f88cdacc2", func := "thicket/thicketlaw13.MaskOrder", spec := "maskOrder", inPlace := ["math.Float64bits"], unfollowed := true, recurses := true, named := ["math/bits.deBruijn64tab"], apart := false, laid := [("math/bits.deBruijn64tab", laid_math_bits_deBruijn64tab)] }
def MaskOrderSaid : Prop := maskOrderRow.holds Tryd.pinned (OpenSpec.ofChange maskOrderSpec)

/-- ITS FALSE NEIGHBOUR: 'it returns false'. Refute it at one input. -/
def maskOrderWrong : ChangeSpec := { name := "maskOrder", fn := fun _ => fun
  | [d1, d2, d3] => { results := [.lit (.bool false)], args := [d1, d2, d3] }
  | _ => none }
def MaskOrderWrongFalsely : Prop := maskOrderRow.holds Tryd.pinned (OpenSpec.ofChange maskOrderWrong)

/- THE SECOND FORM. 'bulk': how many values and letters a reading holds, each counted each time it is reached (what is shared counts as often as it is met; a slice's spare places count too). A statement '..UptoSaid' is the law's where the arguments, and the package variables that the reading takes, are together of bulk at most 1048576: NARROWER than '..Said'. Prove '..Said' where nothing that the law and all that it calls make is longer than what came in: it says more and counts as full. Else prove '..UptoSaid'. A law counts once. -/
mutual
def uptoBulk {H : Type} : DataW H → Nat
  | .lit (.string bytes) => bytes.length + 1
  | .lit _ => 1
  | .nil => 1
  | .ptr d => uptoBulk d + 1
  | .slice elems spare => uptoBulkAll elems + uptoBulkAll spare + 1
  | .agg parts => uptoBulkAll parts + 1
  | .iface _ d => uptoBulk d + 1
  | .map entries => uptoBulkEntries entries + 1
  | .held _ => 1
def uptoBulkAll {H : Type} : List (DataW H) → Nat
  | [] => 0
  | d :: r => uptoBulk d + uptoBulkAll r
def uptoBulkEntries {H : Type} : List (Lit × DataW H) → Nat
  | [] => 0
  | x :: r => uptoBulkEntry x + uptoBulkEntries r
def uptoBulkEntry {H : Type} : Lit × DataW H → Nat
  | (.string bytes, d) => bytes.length + uptoBulk d + 1
  | (_, d) => uptoBulk d + 1
 end
def uptoSmall : (H : Type) → List (DataW H) → Bool := fun _ ds => decide (uptoBulkAll ds ≤ 1048576)
def OpenSpec.upto (s : _root_.Go.ChangeSpec) : _root_.Go.OpenSpec := { _root_.Go.OpenSpec.ofChange s with cond := some uptoSmall }

/-- 'thicketlaw13.MaskFalse', WHERE WHAT IT READS IS OF BULK AT MOST 1048576: true; the input reads as it did. -/
def maskFalseUptoRow : OpenClaim := { program := "ytpllehijaidinaadoor", sum := "2f0ca79c0ddb6570dfe63b14b34bcba98772cf36a0c92776c61f726f88cdacc2", func := "thicket/thicketlaw13.MaskFalse", spec := "maskFalse", inPlace := ["math.Float64bits"], unfollowed := true, recurses := true, named := ["math/bits.deBruijn64tab"], apart := false, laid := [("math/bits.deBruijn64tab", laid_math_bits_deBruijn64tab)], narrowed := true }
def MaskFalseUptoSaid : Prop := maskFalseUptoRow.holds Tryd.pinned (OpenSpec.upto maskFalseSpec)

/-- 'thicketlaw13.MaskNested', WHERE WHAT IT READS IS OF BULK AT MOST 1048576: true; the input reads as it did. -/
def maskNestedUptoRow : OpenClaim := { program := "ytpllehijaidinaadoor", sum := "2f0ca79c0ddb6570dfe63b14b34bcba98772cf36a0c92776c61f726f88cdacc2", func := "thicket/thicketlaw13.MaskNested", spec := "maskNested", inPlace := ["math.Float64bits"], unfollowed := true, recurses := true, named := ["math/bits.deBruijn64tab"], apart := false, laid := [("math/bits.deBruijn64tab", laid_math_bits_deBruijn64tab)], narrowed := true }
def MaskNestedUptoSaid : Prop := maskNestedUptoRow.holds Tryd.pinned (OpenSpec.upto maskNestedSpec)

/-- 'thicketlaw13.MaskMarks', WHERE WHAT IT READS IS OF BULK AT MOST 1048576: true; the input reads as it did. -/
def maskMarksUptoRow : OpenClaim := { program := "ytpllehijaidinaadoor", sum := "2f0ca79c0ddb6570dfe63b14b34bcba98772cf36a0c92776c61f726f88cdacc2", func := "thicket/thicketlaw13.MaskMarks", spec := "maskMarks", inPlace := ["math.Float64bits"], unfollowed := true, recurses := true, named := ["math/bits.deBruijn64tab"], apart := false, laid := [("math/bits.deBruijn64tab", laid_math_bits_deBruijn64tab)], narrowed := true }
def MaskMarksUptoSaid : Prop := maskMarksUptoRow.holds Tryd.pinned (OpenSpec.upto maskMarksSpec)

/-- 'thicketlaw13.MaskOwn', WHERE WHAT IT READS IS OF BULK AT MOST 1048576: true; the input reads as it did. -/
def maskOwnUptoRow : OpenClaim := { program := "ytpllehijaidinaadoor", sum := "2f0ca79c0ddb6570dfe63b14b34bcba98772cf36a0c92776c61f726f88cdacc2", func := "thicket/thicketlaw13.MaskOwn", spec := "maskOwn", inPlace := ["math.Float64bits"], unfollowed := true, recurses := true, named := ["math/bits.deBruijn64tab"], apart := false, laid := [("math/bits.deBruijn64tab", laid_math_bits_deBruijn64tab)], narrowed := true }
def MaskOwnUptoSaid : Prop := maskOwnUptoRow.holds Tryd.pinned (OpenSpec.upto maskOwnSpec)

/-- 'thicketlaw13.MaskExit', WHERE WHAT IT READS IS OF BULK AT MOST 1048576: true; the input reads as it did. -/
def maskExitUptoRow : OpenClaim := { program := "ytpllehijaidinaadoor", sum := "2f0ca79c0ddb6570dfe63b14b34bcba98772cf36a0c92776c61f726f88cdacc2", func := "thicket/thicketlaw13.MaskExit", spec := "maskExit", inPlace := ["math.Float64bits"], unfollowed := true, recurses := true, named := ["math/bits.deBruijn64tab"], apart := false, laid := [("math/bits.deBruijn64tab", laid_math_bits_deBruijn64tab)], narrowed := true }
def MaskExitUptoSaid : Prop := maskExitUptoRow.holds Tryd.pinned (OpenSpec.upto maskExitSpec)

/-- 'thicketlaw13.MaskOrder', WHERE WHAT IT READS IS OF BULK AT MOST 1048576: true; the input reads as it did. -/
def maskOrderUptoRow : OpenClaim := { program := "ytpllehijaidinaadoor", sum := "2f0ca79c0ddb6570dfe63b14b34bcba98772cf36a0c92776c61f726f88cdacc2", func := "thicket/thicketlaw13.MaskOrder", spec := "maskOrder", inPlace := ["math.Float64bits"], unfollowed := true, recurses := true, named := ["math/bits.deBruijn64tab"], apart := false, laid := [("math/bits.deBruijn64tab", laid_math_bits_deBruijn64tab)], narrowed := true }
def MaskOrderUptoSaid : Prop := maskOrderUptoRow.holds Tryd.pinned (OpenSpec.upto maskOrderSpec)

end Rows
end Go.Proofs.YtpllehijaidinaaDoor
