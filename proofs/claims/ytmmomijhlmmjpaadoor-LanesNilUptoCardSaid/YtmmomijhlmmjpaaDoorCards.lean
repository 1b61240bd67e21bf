/-
  DERIVED. GIVEN WITH THE SEED: THE CARDS: each row of YtmmomijhlmmjpaaDoorRows.lean that lists a variable, with what it lists TIED to the program's text (the seventh form; the later family's looks); each row that meets fmt, with fmt's text TOLD by the authors' own Lean function (tested against real Go, not proved from fmt's source: count such statements apart). THE CARD IS WHAT COUNTS. Prove the row's statement (the work); the ties are given (YtmmomijhlmmjpaaDoorTie.lean); close each card by the builder's one call (the guide's Derived/Test/ToyasCard.lean, 'card_holds'). Laid BY PROGRAM, IN A SANDBOX (cutbox-door.mjs). By AI agents, Wed Nov 11 2026. No macro, syntax, notation, axiom, sorry.
-/
import Derived.Test.YtmmomijhlmmjpaaDoorRows
import GoSem.ClaimSeven
namespace Go.Proofs.YtmmomijhlmmjpaaDoor
namespace Rows

/-- THE TIED CARD OF 'thicketlaw18.LanesNil'. -/
def lanesNilCard : Claim7 := { stood := { row := lanesNilRow, standIns := [], harness := (true, "146fe6559daf466f2b2404a7057750a29333ae789017ec8527a55059b2855660"), looks := false }, kinds := [], alts := [], laidByText := true, laidKinds := [.data], laidTests := true, laidLooks := .later }
def LanesNilCardSaid : Prop := Claim7.holds Tryd.pinned (.plain (OpenSpec.ofChange lanesNilSpec)) lanesNilCard

/-- THE SECOND FORM's CARD OF 'thicketlaw18.LanesNil'. -/
def lanesNilUptoCard : Claim7 := { stood := { row := lanesNilUptoRow, standIns := [], harness := (true, "146fe6559daf466f2b2404a7057750a29333ae789017ec8527a55059b2855660"), looks := false }, kinds := [], alts := [], laidByText := true, laidKinds := [.data], laidTests := true, laidLooks := .later }
def LanesNilUptoCardSaid : Prop := Claim7.holds Tryd.pinned (.plain (OpenSpec.upto lanesNilSpec)) lanesNilUptoCard
end Rows
end Go.Proofs.YtmmomijhlmmjpaaDoor
