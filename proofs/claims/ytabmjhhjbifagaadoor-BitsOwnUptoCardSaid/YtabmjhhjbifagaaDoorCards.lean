/-
  DERIVED. GIVEN WITH THE SEED: THE CARDS: each row of YtabmjhhjbifagaaDoorRows.lean that lists a variable, with what it lists TIED to the program's text (the seventh form; the later family's looks); each row that meets fmt, with fmt's text TOLD by the authors' own Lean function (tested against real Go, not proved from fmt's source: count such statements apart). THE CARD IS WHAT COUNTS. Prove the row's statement (the work); the ties are given (YtabmjhhjbifagaaDoorTie.lean); close each card by the builder's one call (the guide's Derived/Test/ToyasCard.lean, 'card_holds'). Laid BY PROGRAM, IN A SANDBOX (cutbox-door.mjs). By AI agents, Wed Nov 11 2026. No macro, syntax, notation, axiom, sorry.
-/
import Derived.Test.YtabmjhhjbifagaaDoorRows
import GoSem.ClaimSeven
namespace Go.Proofs.YtabmjhhjbifagaaDoor
namespace Rows

/-- THE TIED CARD OF 'thicketlaw05.BitsMade'. -/
def bitsMadeCard : Claim7 := { stood := { row := bitsMadeRow, standIns := [], harness := (true, "5e16ae3c2109edd0c2e76bc00f2bb331a0f6ea4413093369c5164cc100477acd"), looks := false }, kinds := [], alts := [], laidByText := true, laidKinds := [.data], laidTests := true, laidLooks := .later }
def BitsMadeCardSaid : Prop := Claim7.holds Tryd.pinned (.plain (OpenSpec.ofChange bitsMadeSpec)) bitsMadeCard

/-- THE TIED CARD OF 'thicketlaw05.BitsMeets'. -/
def bitsMeetsCard : Claim7 := { stood := { row := bitsMeetsRow, standIns := [], harness := (true, "5e16ae3c2109edd0c2e76bc00f2bb331a0f6ea4413093369c5164cc100477acd"), looks := false }, kinds := [], alts := [], laidByText := true, laidKinds := [.data], laidTests := true, laidLooks := .later }
def BitsMeetsCardSaid : Prop := Claim7.holds Tryd.pinned (.plain (OpenSpec.ofChange bitsMeetsSpec)) bitsMeetsCard

/-- THE TIED CARD OF 'thicketlaw05.BitsTexts'. -/
def bitsTextsCard : Claim7 := { stood := { row := bitsTextsRow, standIns := [], harness := (true, "5e16ae3c2109edd0c2e76bc00f2bb331a0f6ea4413093369c5164cc100477acd"), looks := false }, kinds := [], alts := [], laidByText := true, laidKinds := [.data], laidTests := true, laidLooks := .later }
def BitsTextsCardSaid : Prop := Claim7.holds Tryd.pinned (.plain (OpenSpec.ofChange bitsTextsSpec)) bitsTextsCard

/-- THE TIED CARD OF 'thicketlaw05.BitsWords'. -/
def bitsWordsCard : Claim7 := { stood := { row := bitsWordsRow, standIns := [], harness := (true, "5e16ae3c2109edd0c2e76bc00f2bb331a0f6ea4413093369c5164cc100477acd"), looks := false }, kinds := [], alts := [], laidByText := true, laidKinds := [.data], laidTests := true, laidLooks := .later }
def BitsWordsCardSaid : Prop := Claim7.holds Tryd.pinned (.plain (OpenSpec.ofChange bitsWordsSpec)) bitsWordsCard

/-- THE TIED CARD OF 'thicketlaw05.BitsRuns'. -/
def bitsRunsCard : Claim7 := { stood := { row := bitsRunsRow, standIns := [], harness := (true, "5e16ae3c2109edd0c2e76bc00f2bb331a0f6ea4413093369c5164cc100477acd"), looks := false }, kinds := [], alts := [], laidByText := true, laidKinds := [.data], laidTests := true, laidLooks := .later }
def BitsRunsCardSaid : Prop := Claim7.holds Tryd.pinned (.plain (OpenSpec.ofChange bitsRunsSpec)) bitsRunsCard

/-- THE TIED CARD OF 'thicketlaw05.BitsAsks'. -/
def bitsAsksCard : Claim7 := { stood := { row := bitsAsksRow, standIns := [], harness := (true, "5e16ae3c2109edd0c2e76bc00f2bb331a0f6ea4413093369c5164cc100477acd"), looks := false }, kinds := [], alts := [], laidByText := true, laidKinds := [.data], laidTests := true, laidLooks := .later }
def BitsAsksCardSaid : Prop := Claim7.holds Tryd.pinned (.plain (OpenSpec.ofChange bitsAsksSpec)) bitsAsksCard

/-- THE TIED CARD OF 'thicketlaw05.BitsBack'. -/
def bitsBackCard : Claim7 := { stood := { row := bitsBackRow, standIns := [], harness := (true, "5e16ae3c2109edd0c2e76bc00f2bb331a0f6ea4413093369c5164cc100477acd"), looks := false }, kinds := [], alts := [], laidByText := true, laidKinds := [.data], laidTests := true, laidLooks := .later }
def BitsBackCardSaid : Prop := Claim7.holds Tryd.pinned (.plain (OpenSpec.ofChange bitsBackSpec)) bitsBackCard

/-- THE TIED CARD OF 'thicketlaw05.BitsOwn'. -/
def bitsOwnCard : Claim7 := { stood := { row := bitsOwnRow, standIns := [], harness := (true, "5e16ae3c2109edd0c2e76bc00f2bb331a0f6ea4413093369c5164cc100477acd"), looks := false }, kinds := [], alts := [], laidByText := true, laidKinds := [.data], laidTests := true, laidLooks := .later }
def BitsOwnCardSaid : Prop := Claim7.holds Tryd.pinned (.plain (OpenSpec.ofChange bitsOwnSpec)) bitsOwnCard

/-- THE TIED CARD OF 'thicketlaw05.BitsLaws'. -/
def bitsLawsCard : Claim7 := { stood := { row := bitsLawsRow, standIns := [], harness := (true, "5e16ae3c2109edd0c2e76bc00f2bb331a0f6ea4413093369c5164cc100477acd"), looks := false }, kinds := [], alts := [], laidByText := true, laidKinds := [.data], laidTests := true, laidLooks := .later }
def BitsLawsCardSaid : Prop := Claim7.holds Tryd.pinned (.plain (OpenSpec.ofChange bitsLawsSpec)) bitsLawsCard

/-- THE SECOND FORM's CARD OF 'thicketlaw05.BitsMade'. -/
def bitsMadeUptoCard : Claim7 := { stood := { row := bitsMadeUptoRow, standIns := [], harness := (true, "5e16ae3c2109edd0c2e76bc00f2bb331a0f6ea4413093369c5164cc100477acd"), looks := false }, kinds := [], alts := [], laidByText := true, laidKinds := [.data], laidTests := true, laidLooks := .later }
def BitsMadeUptoCardSaid : Prop := Claim7.holds Tryd.pinned (.plain (OpenSpec.upto bitsMadeSpec)) bitsMadeUptoCard

/-- THE SECOND FORM's CARD OF 'thicketlaw05.BitsMeets'. -/
def bitsMeetsUptoCard : Claim7 := { stood := { row := bitsMeetsUptoRow, standIns := [], harness := (true, "5e16ae3c2109edd0c2e76bc00f2bb331a0f6ea4413093369c5164cc100477acd"), looks := false }, kinds := [], alts := [], laidByText := true, laidKinds := [.data], laidTests := true, laidLooks := .later }
def BitsMeetsUptoCardSaid : Prop := Claim7.holds Tryd.pinned (.plain (OpenSpec.upto bitsMeetsSpec)) bitsMeetsUptoCard

/-- THE SECOND FORM's CARD OF 'thicketlaw05.BitsTexts'. -/
def bitsTextsUptoCard : Claim7 := { stood := { row := bitsTextsUptoRow, standIns := [], harness := (true, "5e16ae3c2109edd0c2e76bc00f2bb331a0f6ea4413093369c5164cc100477acd"), looks := false }, kinds := [], alts := [], laidByText := true, laidKinds := [.data], laidTests := true, laidLooks := .later }
def BitsTextsUptoCardSaid : Prop := Claim7.holds Tryd.pinned (.plain (OpenSpec.upto bitsTextsSpec)) bitsTextsUptoCard

/-- THE SECOND FORM's CARD OF 'thicketlaw05.BitsWords'. -/
def bitsWordsUptoCard : Claim7 := { stood := { row := bitsWordsUptoRow, standIns := [], harness := (true, "5e16ae3c2109edd0c2e76bc00f2bb331a0f6ea4413093369c5164cc100477acd"), looks := false }, kinds := [], alts := [], laidByText := true, laidKinds := [.data], laidTests := true, laidLooks := .later }
def BitsWordsUptoCardSaid : Prop := Claim7.holds Tryd.pinned (.plain (OpenSpec.upto bitsWordsSpec)) bitsWordsUptoCard

/-- THE SECOND FORM's CARD OF 'thicketlaw05.BitsRuns'. -/
def bitsRunsUptoCard : Claim7 := { stood := { row := bitsRunsUptoRow, standIns := [], harness := (true, "5e16ae3c2109edd0c2e76bc00f2bb331a0f6ea4413093369c5164cc100477acd"), looks := false }, kinds := [], alts := [], laidByText := true, laidKinds := [.data], laidTests := true, laidLooks := .later }
def BitsRunsUptoCardSaid : Prop := Claim7.holds Tryd.pinned (.plain (OpenSpec.upto bitsRunsSpec)) bitsRunsUptoCard

/-- THE SECOND FORM's CARD OF 'thicketlaw05.BitsAsks'. -/
def bitsAsksUptoCard : Claim7 := { stood := { row := bitsAsksUptoRow, standIns := [], harness := (true, "5e16ae3c2109edd0c2e76bc00f2bb331a0f6ea4413093369c5164cc100477acd"), looks := false }, kinds := [], alts := [], laidByText := true, laidKinds := [.data], laidTests := true, laidLooks := .later }
def BitsAsksUptoCardSaid : Prop := Claim7.holds Tryd.pinned (.plain (OpenSpec.upto bitsAsksSpec)) bitsAsksUptoCard

/-- THE SECOND FORM's CARD OF 'thicketlaw05.BitsBack'. -/
def bitsBackUptoCard : Claim7 := { stood := { row := bitsBackUptoRow, standIns := [], harness := (true, "5e16ae3c2109edd0c2e76bc00f2bb331a0f6ea4413093369c5164cc100477acd"), looks := false }, kinds := [], alts := [], laidByText := true, laidKinds := [.data], laidTests := true, laidLooks := .later }
def BitsBackUptoCardSaid : Prop := Claim7.holds Tryd.pinned (.plain (OpenSpec.upto bitsBackSpec)) bitsBackUptoCard

/-- THE SECOND FORM's CARD OF 'thicketlaw05.BitsOwn'. -/
def bitsOwnUptoCard : Claim7 := { stood := { row := bitsOwnUptoRow, standIns := [], harness := (true, "5e16ae3c2109edd0c2e76bc00f2bb331a0f6ea4413093369c5164cc100477acd"), looks := false }, kinds := [], alts := [], laidByText := true, laidKinds := [.data], laidTests := true, laidLooks := .later }
def BitsOwnUptoCardSaid : Prop := Claim7.holds Tryd.pinned (.plain (OpenSpec.upto bitsOwnSpec)) bitsOwnUptoCard

/-- THE SECOND FORM's CARD OF 'thicketlaw05.BitsLaws'. -/
def bitsLawsUptoCard : Claim7 := { stood := { row := bitsLawsUptoRow, standIns := [], harness := (true, "5e16ae3c2109edd0c2e76bc00f2bb331a0f6ea4413093369c5164cc100477acd"), looks := false }, kinds := [], alts := [], laidByText := true, laidKinds := [.data], laidTests := true, laidLooks := .later }
def BitsLawsUptoCardSaid : Prop := Claim7.holds Tryd.pinned (.plain (OpenSpec.upto bitsLawsSpec)) bitsLawsUptoCard
end Rows
end Go.Proofs.YtabmjhhjbifagaaDoor
