/-
  No cell of these rows narrows 'for every input' (looked for: loops, veiled, ifaces, maps, wideKeys, modest, calm, conditions, laid).
  DERIVED. THE GIVEN ROWS OF THIS SEAT. 4 by the template 'for every input the law returns true; each argument reads behind the call as it read before'; 0 by the template 'total and deterministic' (their statements: YtmjlipmapfofmaaTotals.lean).
  GIVEN WITH THE SEED: the statements are not yours to turn. If you find one false, say at which input.
  Laid BY PROGRAM, IN A SANDBOX (cutbox-rows.mjs): the forced cells as the released guide's own fill.sh prints them over the translation 1724c86ae8b22341… (all of the seat's roots in one cut). By AI agents, Wed Nov 11 2026. No macro, syntax, notation, axiom, sorry.
-/
import Derived.Test.YtmjlipmapfofmaaChecked
import GoSem.Claim
import GoSem.ClaimJoined
import GoSem.ClaimMapViews
import Derived.JoinedTies
import Derived.KernelRfl
namespace Go.Proofs.Ytmjlipmapfofmaa
/- THE CELL 'sum', in the pinned program and in every row, IS THE sha256 OF THE DUMP (.gsa) THAT YtmjlipmapfofmaaProg.lean LOADS. Nothing in Lean hashes anything: it is a label: what it is worth is what the hold of that sum in a sandbox is worth. -/
noncomputable def Try.pinned : Pinned := { name := "ytmjlipmapfofmaa", sum := "1724c86ae8b223412a1010a7c9c9afceafc4473dd6a521e008ea7e4b62b9ac64", checked := Try.checked }
namespace Rows
def none {H : Type} : Left H := { results := [], args := [] }

/-- 'thicketlaw15.BlocksSplits': WHATEVER THE INPUT: true; the input reads as it did. -/
def blocksSplitsSpec : ChangeSpec := { name := "blocksSplits", fn := fun _ => fun
  | [d1, d2, d3] => { results := [.lit (.bool true)], args := [d1, d2, d3] }
  | _ => none }
def blocksSplitsRow : OpenClaim := { program := "ytmjlipmapfofmaa", sum := "1724c86ae8b223412a1010a7c9c9afceafc4473dd6a521e008ea7e4b62b9ac64", func := "thicket/thicketlaw15.BlocksSplits", spec := "blocksSplits", inPlace := ["math.Float64bits"], unfollowed := true, recurses := true, plainKeys := false, apart := false }
def BlocksSplitsSaid : Prop := blocksSplitsRow.holds Try.pinned (OpenSpec.ofChange blocksSplitsSpec)

/-- ITS FALSE NEIGHBOUR: 'it returns false'. Refute it at one input. -/
def blocksSplitsWrong : ChangeSpec := { name := "blocksSplits", fn := fun _ => fun
  | [d1, d2, d3] => { results := [.lit (.bool false)], args := [d1, d2, d3] }
  | _ => none }
def BlocksSplitsWrongFalsely : Prop := blocksSplitsRow.holds Try.pinned (OpenSpec.ofChange blocksSplitsWrong)

/-- 'thicketlaw15.BlocksPlan': WHATEVER THE INPUT: true; the input reads as it did. -/
def blocksPlanSpec : ChangeSpec := { name := "blocksPlan", fn := fun _ => fun
  | [d1, d2] => { results := [.lit (.bool true)], args := [d1, d2] }
  | _ => none }
def blocksPlanRow : OpenClaim := { program := "ytmjlipmapfofmaa", sum := "1724c86ae8b223412a1010a7c9c9afceafc4473dd6a521e008ea7e4b62b9ac64", func := "thicket/thicketlaw15.BlocksPlan", spec := "blocksPlan", inPlace := ["math.Float64bits"], unfollowed := true, recurses := true, plainKeys := false, apart := false }
def BlocksPlanSaid : Prop := blocksPlanRow.holds Try.pinned (OpenSpec.ofChange blocksPlanSpec)

/-- ITS FALSE NEIGHBOUR: 'it returns false'. Refute it at one input. -/
def blocksPlanWrong : ChangeSpec := { name := "blocksPlan", fn := fun _ => fun
  | [d1, d2] => { results := [.lit (.bool false)], args := [d1, d2] }
  | _ => none }
def BlocksPlanWrongFalsely : Prop := blocksPlanRow.holds Try.pinned (OpenSpec.ofChange blocksPlanWrong)

/-- 'thicketlaw15.BlocksSame': WHATEVER THE INPUT: true; the input reads as it did. -/
def blocksSameSpec : ChangeSpec := { name := "blocksSame", fn := fun _ => fun
  | [d1, d2] => { results := [.lit (.bool true)], args := [d1, d2] }
  | _ => none }
def blocksSameRow : OpenClaim := { program := "ytmjlipmapfofmaa", sum := "1724c86ae8b223412a1010a7c9c9afceafc4473dd6a521e008ea7e4b62b9ac64", func := "thicket/thicketlaw15.BlocksSame", spec := "blocksSame", inPlace := ["math.Float64bits"], unfollowed := true, recurses := true, plainKeys := false, apart := false }
def BlocksSameSaid : Prop := blocksSameRow.holds Try.pinned (OpenSpec.ofChange blocksSameSpec)

/-- ITS FALSE NEIGHBOUR: 'it returns false'. Refute it at one input. -/
def blocksSameWrong : ChangeSpec := { name := "blocksSame", fn := fun _ => fun
  | [d1, d2] => { results := [.lit (.bool false)], args := [d1, d2] }
  | _ => none }
def BlocksSameWrongFalsely : Prop := blocksSameRow.holds Try.pinned (OpenSpec.ofChange blocksSameWrong)

/-- 'thicketlaw15.BlocksLossless': WHATEVER THE INPUT: true; the input reads as it did. -/
def blocksLosslessSpec : ChangeSpec := { name := "blocksLossless", fn := fun _ => fun
  | [d1, d2, d3] => { results := [.lit (.bool true)], args := [d1, d2, d3] }
  | _ => none }
def blocksLosslessRow : OpenClaim := { program := "ytmjlipmapfofmaa", sum := "1724c86ae8b223412a1010a7c9c9afceafc4473dd6a521e008ea7e4b62b9ac64", func := "thicket/thicketlaw15.BlocksLossless", spec := "blocksLossless", inPlace := ["math.Float64bits"], unfollowed := true, recurses := true, plainKeys := false, apart := false }
def BlocksLosslessSaid : Prop := blocksLosslessRow.holds Try.pinned (OpenSpec.ofChange blocksLosslessSpec)

/-- ITS FALSE NEIGHBOUR: 'it returns false'. Refute it at one input. -/
def blocksLosslessWrong : ChangeSpec := { name := "blocksLossless", fn := fun _ => fun
  | [d1, d2, d3] => { results := [.lit (.bool false)], args := [d1, d2, d3] }
  | _ => none }
def BlocksLosslessWrongFalsely : Prop := blocksLosslessRow.holds Try.pinned (OpenSpec.ofChange blocksLosslessWrong)

/- THE SECOND FORM. 'bulk': how many values and letters a reading holds, each counted each time it is reached (what is shared counts as often as it is met; a slice's spare places count too). A statement '..UptoSaid' is the law's where the arguments, and the package variables that the reading takes, are together of bulk at most 1048576: NARROWER than '..Said'. Prove '..Said' where nothing that the law and all that it calls make is longer than what came in: it says more and counts as full. Else prove '..UptoSaid'. A law counts once. -/
mutual
def uptoBulk {H : Type} : DataW H → Nat
  | .lit (.string bytes) => bytes.length + 1
  | .lit _ => 1
  | .nil => 1
  | .ptr d => uptoBulk d + 1
  | .slice elems spare => uptoBulkAll elems + uptoBulkAll spare + 1
  | .agg parts => uptoBulkAll parts + 1
  | .iface _ d => uptoBulk d + 1
  | .map entries => uptoBulkEntries entries + 1
  | .held _ => 1
def uptoBulkAll {H : Type} : List (DataW H) → Nat
  | [] => 0
  | d :: r => uptoBulk d + uptoBulkAll r
def uptoBulkEntries {H : Type} : List (Lit × DataW H) → Nat
  | [] => 0
  | x :: r => uptoBulkEntry x + uptoBulkEntries r
def uptoBulkEntry {H : Type} : Lit × DataW H → Nat
  | (.string bytes, d) => bytes.length + uptoBulk d + 1
  | (_, d) => uptoBulk d + 1
 end
def uptoSmall : (H : Type) → List (DataW H) → Bool := fun _ ds => decide (uptoBulkAll ds ≤ 1048576)
def OpenSpec.upto (s : _root_.Go.ChangeSpec) : _root_.Go.OpenSpec := { _root_.Go.OpenSpec.ofChange s with cond := some uptoSmall }

/-- 'thicketlaw15.BlocksSplits', WHERE WHAT IT READS IS OF BULK AT MOST 1048576: true; the input reads as it did. -/
def blocksSplitsUptoRow : OpenClaim := { program := "ytmjlipmapfofmaa", sum := "1724c86ae8b223412a1010a7c9c9afceafc4473dd6a521e008ea7e4b62b9ac64", func := "thicket/thicketlaw15.BlocksSplits", spec := "blocksSplits", inPlace := ["math.Float64bits"], unfollowed := true, recurses := true, plainKeys := false, apart := false, narrowed := true }
def BlocksSplitsUptoSaid : Prop := blocksSplitsUptoRow.holds Try.pinned (OpenSpec.upto blocksSplitsSpec)

/-- 'thicketlaw15.BlocksPlan', WHERE WHAT IT READS IS OF BULK AT MOST 1048576: true; the input reads as it did. -/
def blocksPlanUptoRow : OpenClaim := { program := "ytmjlipmapfofmaa", sum := "1724c86ae8b223412a1010a7c9c9afceafc4473dd6a521e008ea7e4b62b9ac64", func := "thicket/thicketlaw15.BlocksPlan", spec := "blocksPlan", inPlace := ["math.Float64bits"], unfollowed := true, recurses := true, plainKeys := false, apart := false, narrowed := true }
def BlocksPlanUptoSaid : Prop := blocksPlanUptoRow.holds Try.pinned (OpenSpec.upto blocksPlanSpec)

/-- 'thicketlaw15.BlocksSame', WHERE WHAT IT READS IS OF BULK AT MOST 1048576: true; the input reads as it did. -/
def blocksSameUptoRow : OpenClaim := { program := "ytmjlipmapfofmaa", sum := "1724c86ae8b223412a1010a7c9c9afceafc4473dd6a521e008ea7e4b62b9ac64", func := "thicket/thicketlaw15.BlocksSame", spec := "blocksSame", inPlace := ["math.Float64bits"], unfollowed := true, recurses := true, plainKeys := false, apart := false, narrowed := true }
def BlocksSameUptoSaid : Prop := blocksSameUptoRow.holds Try.pinned (OpenSpec.upto blocksSameSpec)

/-- 'thicketlaw15.BlocksLossless', WHERE WHAT IT READS IS OF BULK AT MOST 1048576: true; the input reads as it did. -/
def blocksLosslessUptoRow : OpenClaim := { program := "ytmjlipmapfofmaa", sum := "1724c86ae8b223412a1010a7c9c9afceafc4473dd6a521e008ea7e4b62b9ac64", func := "thicket/thicketlaw15.BlocksLossless", spec := "blocksLossless", inPlace := ["math.Float64bits"], unfollowed := true, recurses := true, plainKeys := false, apart := false, narrowed := true }
def BlocksLosslessUptoSaid : Prop := blocksLosslessUptoRow.holds Try.pinned (OpenSpec.upto blocksLosslessSpec)

end Rows
end Go.Proofs.Ytmjlipmapfofmaa
