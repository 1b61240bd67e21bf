/-
  No cell of these rows narrows 'for every input' (looked for: loops, veiled, ifaces, maps, wideKeys, modest, calm, conditions, laid).
  DERIVED. THE GIVEN ROWS OF THIS SEAT. 3 by the template 'for every input the law returns true; each argument reads behind the call as it read before'; 0 by the template 'total and deterministic' (their statements: YtmjlipmapfofmaaGreatTotals.lean).
  GIVEN WITH THE SEED: the statements are not yours to turn. If you find one false, say at which input.
  Laid BY PROGRAM, IN A SANDBOX (cutbox-rows.mjs): the forced cells as the released guide's own fill.sh prints them over the translation ec67d8b31de54e31… (all of the seat's roots in one cut). By AI agents, Wed Nov 11 2026. No macro, syntax, notation, axiom, sorry.
-/
import Derived.Test.YtmjlipmapfofmaaGreatChecked
import GoSem.Claim
import GoSem.ClaimJoined
import GoSem.ClaimMapViews
import Derived.JoinedTies
import Derived.KernelRfl
namespace Go.Proofs.YtmjlipmapfofmaaGreat
/- THE CELL 'sum', in the pinned program and in every row, IS THE sha256 OF THE DUMP (.gsa) THAT YtmjlipmapfofmaaGreatProg.lean LOADS. Nothing in Lean hashes anything: it is a label: what it is worth is what the hold of that sum in a sandbox is worth. -/
noncomputable def Tryz.pinned : Pinned := { name := "ytmjlipmapfofmaagreat", sum := "ec67d8b31de54e3129b45df3215dd1449bfa55abf1d4b2e84e34ea6b3ee7c4e3", checked := Tryz.checked }
namespace Rows
def none {H : Type} : Left H := { results := [], args := [] }

/-- 'thicketlaw15.BlocksOf': WHATEVER THE INPUT: true; the input reads as it did. -/
def blocksOfSpec : ChangeSpec := { name := "blocksOf", fn := fun _ => fun
  | [d1, d2, d3] => { results := [.lit (.bool true)], args := [d1, d2, d3] }
  | _ => none }
def blocksOfRow : OpenClaim := { program := "ytmjlipmapfofmaagreat", sum := "ec67d8b31de54e3129b45df3215dd1449bfa55abf1d4b2e84e34ea6b3ee7c4e3", func := "thicket/thicketlaw15.BlocksOf", spec := "blocksOf", inPlace := ["math.Float64bits"], unfollowed := true, recurses := true, plainKeys := false, apart := false }
def BlocksOfSaid : Prop := blocksOfRow.holds Tryz.pinned (OpenSpec.ofChange blocksOfSpec)

/-- ITS FALSE NEIGHBOUR: 'it returns false'. Refute it at one input. -/
def blocksOfWrong : ChangeSpec := { name := "blocksOf", fn := fun _ => fun
  | [d1, d2, d3] => { results := [.lit (.bool false)], args := [d1, d2, d3] }
  | _ => none }
def BlocksOfWrongFalsely : Prop := blocksOfRow.holds Tryz.pinned (OpenSpec.ofChange blocksOfWrong)

/-- 'thicketlaw15.BlocksBack': WHATEVER THE INPUT: true; the input reads as it did. -/
def blocksBackSpec : ChangeSpec := { name := "blocksBack", fn := fun _ => fun
  | [d] => { results := [.lit (.bool true)], args := [d] }
  | _ => none }
def blocksBackRow : OpenClaim := { program := "ytmjlipmapfofmaagreat", sum := "ec67d8b31de54e3129b45df3215dd1449bfa55abf1d4b2e84e34ea6b3ee7c4e3", func := "thicket/thicketlaw15.BlocksBack", spec := "blocksBack", inPlace := ["math.Float64bits"], unfollowed := true, recurses := true, plainKeys := false, apart := false }
def BlocksBackSaid : Prop := blocksBackRow.holds Tryz.pinned (OpenSpec.ofChange blocksBackSpec)

/-- ITS FALSE NEIGHBOUR: 'it returns false'. Refute it at one input. -/
def blocksBackWrong : ChangeSpec := { name := "blocksBack", fn := fun _ => fun
  | [d] => { results := [.lit (.bool false)], args := [d] }
  | _ => none }
def BlocksBackWrongFalsely : Prop := blocksBackRow.holds Tryz.pinned (OpenSpec.ofChange blocksBackWrong)

/-- 'thicketlaw15.BlocksOwn': WHATEVER THE INPUT: true; the input reads as it did. -/
def blocksOwnSpec : ChangeSpec := { name := "blocksOwn", fn := fun _ => fun
  | [d1, d2] => { results := [.lit (.bool true)], args := [d1, d2] }
  | _ => none }
def blocksOwnRow : OpenClaim := { program := "ytmjlipmapfofmaagreat", sum := "ec67d8b31de54e3129b45df3215dd1449bfa55abf1d4b2e84e34ea6b3ee7c4e3", func := "thicket/thicketlaw15.BlocksOwn", spec := "blocksOwn", inPlace := ["math.Float64bits"], unfollowed := true, recurses := true, plainKeys := false, apart := false }
def BlocksOwnSaid : Prop := blocksOwnRow.holds Tryz.pinned (OpenSpec.ofChange blocksOwnSpec)

/-- ITS FALSE NEIGHBOUR: 'it returns false'. Refute it at one input. -/
def blocksOwnWrong : ChangeSpec := { name := "blocksOwn", fn := fun _ => fun
  | [d1, d2] => { results := [.lit (.bool false)], args := [d1, d2] }
  | _ => none }
def BlocksOwnWrongFalsely : Prop := blocksOwnRow.holds Tryz.pinned (OpenSpec.ofChange blocksOwnWrong)

/- THE SECOND FORM. 'bulk': how many values and letters a reading holds, each counted each time it is reached (what is shared counts as often as it is met; a slice's spare places count too). A statement '..UptoSaid' is the law's where the arguments, and the package variables that the reading takes, are together of bulk at most 1048576: NARROWER than '..Said'. Prove '..Said' where nothing that the law and all that it calls make is longer than what came in: it says more and counts as full. Else prove '..UptoSaid'. A law counts once. -/
mutual
def uptoBulk {H : Type} : DataW H → Nat
  | .lit (.string bytes) => bytes.length + 1
  | .lit _ => 1
  | .nil => 1
  | .ptr d => uptoBulk d + 1
  | .slice elems spare => uptoBulkAll elems + uptoBulkAll spare + 1
  | .agg parts => uptoBulkAll parts + 1
  | .iface _ d => uptoBulk d + 1
  | .map entries => uptoBulkEntries entries + 1
  | .held _ => 1
def uptoBulkAll {H : Type} : List (DataW H) → Nat
  | [] => 0
  | d :: r => uptoBulk d + uptoBulkAll r
def uptoBulkEntries {H : Type} : List (Lit × DataW H) → Nat
  | [] => 0
  | x :: r => uptoBulkEntry x + uptoBulkEntries r
def uptoBulkEntry {H : Type} : Lit × DataW H → Nat
  | (.string bytes, d) => bytes.length + uptoBulk d + 1
  | (_, d) => uptoBulk d + 1
 end
def uptoSmall : (H : Type) → List (DataW H) → Bool := fun _ ds => decide (uptoBulkAll ds ≤ 1048576)
def OpenSpec.upto (s : _root_.Go.ChangeSpec) : _root_.Go.OpenSpec := { _root_.Go.OpenSpec.ofChange s with cond := some uptoSmall }

/-- 'thicketlaw15.BlocksOf', WHERE WHAT IT READS IS OF BULK AT MOST 1048576: true; the input reads as it did. -/
def blocksOfUptoRow : OpenClaim := { program := "ytmjlipmapfofmaagreat", sum := "ec67d8b31de54e3129b45df3215dd1449bfa55abf1d4b2e84e34ea6b3ee7c4e3", func := "thicket/thicketlaw15.BlocksOf", spec := "blocksOf", inPlace := ["math.Float64bits"], unfollowed := true, recurses := true, plainKeys := false, apart := false, narrowed := true }
def BlocksOfUptoSaid : Prop := blocksOfUptoRow.holds Tryz.pinned (OpenSpec.upto blocksOfSpec)

/-- 'thicketlaw15.BlocksBack', WHERE WHAT IT READS IS OF BULK AT MOST 1048576: true; the input reads as it did. -/
def blocksBackUptoRow : OpenClaim := { program := "ytmjlipmapfofmaagreat", sum := "ec67d8b31de54e3129b45df3215dd1449bfa55abf1d4b2e84e34ea6b3ee7c4e3", func := "thicket/thicketlaw15.BlocksBack", spec := "blocksBack", inPlace := ["math.Float64bits"], unfollowed := true, recurses := true, plainKeys := false, apart := false, narrowed := true }
def BlocksBackUptoSaid : Prop := blocksBackUptoRow.holds Tryz.pinned (OpenSpec.upto blocksBackSpec)

/-- 'thicketlaw15.BlocksOwn', WHERE WHAT IT READS IS OF BULK AT MOST 1048576: true; the input reads as it did. -/
def blocksOwnUptoRow : OpenClaim := { program := "ytmjlipmapfofmaagreat", sum := "ec67d8b31de54e3129b45df3215dd1449bfa55abf1d4b2e84e34ea6b3ee7c4e3", func := "thicket/thicketlaw15.BlocksOwn", spec := "blocksOwn", inPlace := ["math.Float64bits"], unfollowed := true, recurses := true, plainKeys := false, apart := false, narrowed := true }
def BlocksOwnUptoSaid : Prop := blocksOwnUptoRow.holds Tryz.pinned (OpenSpec.upto blocksOwnSpec)

end Rows
end Go.Proofs.YtmjlipmapfofmaaGreat
