/-
  DERIVED. GIVEN WITH THE SEED: THE CARDS: each row of YtpllehijaidinaaDoorRows.lean that lists a variable, with what it lists TIED to the program's text (the seventh form; the later family's looks); each row that meets fmt, with fmt's text TOLD by the authors' own Lean function (tested against real Go, not proved from fmt's source: count such statements apart). THE CARD IS WHAT COUNTS. Prove the row's statement (the work); the ties are given (YtpllehijaidinaaDoorTie.lean); close each card by the builder's one call (the guide's Derived/Test/ToyasCard.lean, 'card_holds'). Laid BY PROGRAM, IN A SANDBOX (cutbox-door.mjs). By AI agents, Wed Nov 11 2026. No macro, syntax, notation, axiom, sorry.
-/
import Derived.Test.YtpllehijaidinaaDoorRows
import GoSem.ClaimSeven
namespace Go.Proofs.YtpllehijaidinaaDoor
namespace Rows

/-- THE TIED CARD OF 'thicketlaw13.MaskFalse'. -/
def maskFalseCard : Claim7 := { stood := { row := maskFalseRow, standIns := [], harness := (true, "da9074bef1082f2991c7db516000b5c68542b91a71fedcc95d551ebb757fe857"), looks := false }, kinds := [], alts := [], laidByText := true, laidKinds := [.data], laidTests := true, laidLooks := .later }
def MaskFalseCardSaid : Prop := Claim7.holds Tryd.pinned (.plain (OpenSpec.ofChange maskFalseSpec)) maskFalseCard

/-- THE TIED CARD OF 'thicketlaw13.MaskNested'. -/
def maskNestedCard : Claim7 := { stood := { row := maskNestedRow, standIns := [], harness := (true, "da9074bef1082f2991c7db516000b5c68542b91a71fedcc95d551ebb757fe857"), looks := false }, kinds := [], alts := [], laidByText := true, laidKinds := [.data], laidTests := true, laidLooks := .later }
def MaskNestedCardSaid : Prop := Claim7.holds Tryd.pinned (.plain (OpenSpec.ofChange maskNestedSpec)) maskNestedCard

/-- THE TIED CARD OF 'thicketlaw13.MaskMarks'. -/
def maskMarksCard : Claim7 := { stood := { row := maskMarksRow, standIns := [], harness := (true, "da9074bef1082f2991c7db516000b5c68542b91a71fedcc95d551ebb757fe857"), looks := false }, kinds := [], alts := [], laidByText := true, laidKinds := [.data], laidTests := true, laidLooks := .later }
def MaskMarksCardSaid : Prop := Claim7.holds Tryd.pinned (.plain (OpenSpec.ofChange maskMarksSpec)) maskMarksCard

/-- THE TIED CARD OF 'thicketlaw13.MaskOwn'. -/
def maskOwnCard : Claim7 := { stood := { row := maskOwnRow, standIns := [], harness := (true, "da9074bef1082f2991c7db516000b5c68542b91a71fedcc95d551ebb757fe857"), looks := false }, kinds := [], alts := [], laidByText := true, laidKinds := [.data], laidTests := true, laidLooks := .later }
def MaskOwnCardSaid : Prop := Claim7.holds Tryd.pinned (.plain (OpenSpec.ofChange maskOwnSpec)) maskOwnCard

/-- THE TIED CARD OF 'thicketlaw13.MaskExit'. -/
def maskExitCard : Claim7 := { stood := { row := maskExitRow, standIns := [], harness := (true, "da9074bef1082f2991c7db516000b5c68542b91a71fedcc95d551ebb757fe857"), looks := false }, kinds := [], alts := [], laidByText := true, laidKinds := [.data], laidTests := true, laidLooks := .later }
def MaskExitCardSaid : Prop := Claim7.holds Tryd.pinned (.plain (OpenSpec.ofChange maskExitSpec)) maskExitCard

/-- THE TIED CARD OF 'thicketlaw13.MaskOrder'. -/
def maskOrderCard : Claim7 := { stood := { row := maskOrderRow, standIns := [], harness := (true, "da9074bef1082f2991c7db516000b5c68542b91a71fedcc95d551ebb757fe857"), looks := false }, kinds := [], alts := [], laidByText := true, laidKinds := [.data], laidTests := true, laidLooks := .later }
def MaskOrderCardSaid : Prop := Claim7.holds Tryd.pinned (.plain (OpenSpec.ofChange maskOrderSpec)) maskOrderCard

/-- THE SECOND FORM's CARD OF 'thicketlaw13.MaskFalse'. -/
def maskFalseUptoCard : Claim7 := { stood := { row := maskFalseUptoRow, standIns := [], harness := (true, "da9074bef1082f2991c7db516000b5c68542b91a71fedcc95d551ebb757fe857"), looks := false }, kinds := [], alts := [], laidByText := true, laidKinds := [.data], laidTests := true, laidLooks := .later }
def MaskFalseUptoCardSaid : Prop := Claim7.holds Tryd.pinned (.plain (OpenSpec.upto maskFalseSpec)) maskFalseUptoCard

/-- THE SECOND FORM's CARD OF 'thicketlaw13.MaskNested'. -/
def maskNestedUptoCard : Claim7 := { stood := { row := maskNestedUptoRow, standIns := [], harness := (true, "da9074bef1082f2991c7db516000b5c68542b91a71fedcc95d551ebb757fe857"), looks := false }, kinds := [], alts := [], laidByText := true, laidKinds := [.data], laidTests := true, laidLooks := .later }
def MaskNestedUptoCardSaid : Prop := Claim7.holds Tryd.pinned (.plain (OpenSpec.upto maskNestedSpec)) maskNestedUptoCard

/-- THE SECOND FORM's CARD OF 'thicketlaw13.MaskMarks'. -/
def maskMarksUptoCard : Claim7 := { stood := { row := maskMarksUptoRow, standIns := [], harness := (true, "da9074bef1082f2991c7db516000b5c68542b91a71fedcc95d551ebb757fe857"), looks := false }, kinds := [], alts := [], laidByText := true, laidKinds := [.data], laidTests := true, laidLooks := .later }
def MaskMarksUptoCardSaid : Prop := Claim7.holds Tryd.pinned (.plain (OpenSpec.upto maskMarksSpec)) maskMarksUptoCard

/-- THE SECOND FORM's CARD OF 'thicketlaw13.MaskOwn'. -/
def maskOwnUptoCard : Claim7 := { stood := { row := maskOwnUptoRow, standIns := [], harness := (true, "da9074bef1082f2991c7db516000b5c68542b91a71fedcc95d551ebb757fe857"), looks := false }, kinds := [], alts := [], laidByText := true, laidKinds := [.data], laidTests := true, laidLooks := .later }
def MaskOwnUptoCardSaid : Prop := Claim7.holds Tryd.pinned (.plain (OpenSpec.upto maskOwnSpec)) maskOwnUptoCard

/-- THE SECOND FORM's CARD OF 'thicketlaw13.MaskExit'. -/
def maskExitUptoCard : Claim7 := { stood := { row := maskExitUptoRow, standIns := [], harness := (true, "da9074bef1082f2991c7db516000b5c68542b91a71fedcc95d551ebb757fe857"), looks := false }, kinds := [], alts := [], laidByText := true, laidKinds := [.data], laidTests := true, laidLooks := .later }
def MaskExitUptoCardSaid : Prop := Claim7.holds Tryd.pinned (.plain (OpenSpec.upto maskExitSpec)) maskExitUptoCard

/-- THE SECOND FORM's CARD OF 'thicketlaw13.MaskOrder'. -/
def maskOrderUptoCard : Claim7 := { stood := { row := maskOrderUptoRow, standIns := [], harness := (true, "da9074bef1082f2991c7db516000b5c68542b91a71fedcc95d551ebb757fe857"), looks := false }, kinds := [], alts := [], laidByText := true, laidKinds := [.data], laidTests := true, laidLooks := .later }
def MaskOrderUptoCardSaid : Prop := Claim7.holds Tryd.pinned (.plain (OpenSpec.upto maskOrderSpec)) maskOrderUptoCard
end Rows
end Go.Proofs.YtpllehijaidinaaDoor
