/-
  DERIVED. GIVEN WITH THE SEED: THE CARDS: each row of YtcbilbkafjnenaaGreatDoorRows.lean that lists a variable, with what it lists TIED to the program's text (the seventh form; the later family's looks); each row that meets fmt, with fmt's text TOLD by the authors' own Lean function (tested against real Go, not proved from fmt's source: count such statements apart). THE CARD IS WHAT COUNTS. Prove the row's statement (the work); the ties are given (YtcbilbkafjnenaaGreatDoorTie.lean); close each card by the builder's one call (the guide's Derived/Test/ToyasCard.lean, 'card_holds'). Laid BY PROGRAM, IN A SANDBOX (cutbox-door.mjs). By AI agents, Wed Nov 11 2026. No macro, syntax, notation, axiom, sorry.
-/
import Derived.Test.YtcbilbkafjnenaaGreatDoorRows
import GoSem.ClaimSeven
namespace Go.Proofs.YtcbilbkafjnenaaGreatDoor
namespace Rows

/-- THE TIED CARD OF 'tripwirelaw15.TypesChecks'. -/
def typesChecksCard : Claim7 := { stood := { row := typesChecksRow, standIns := [], harness := (true, "7b6b5be4307ecd5de338ada6b86a212aaeebb510fb10d2c8b11741afe596bd81"), looks := true }, kinds := [], alts := [], laidByText := true, laidKinds := [.handle], laidTests := true, laidLooks := .later }
def TypesChecksCardSaid : Prop := Claim7.holds Tryz.pinned (.plain (OpenSpec.ofChange typesChecksSpec)) typesChecksCard

/-- THE TIED CARD OF 'tripwirelaw15.TypesTexts'. -/
def typesTextsCard : Claim7 := { stood := { row := typesTextsRow, standIns := [], harness := (true, "7b6b5be4307ecd5de338ada6b86a212aaeebb510fb10d2c8b11741afe596bd81"), looks := true }, kinds := [], alts := [], laidByText := true, laidKinds := [.handle], laidTests := true, laidLooks := .later }
def TypesTextsCardSaid : Prop := Claim7.holds Tryz.pinned (.plain (OpenSpec.ofChange typesTextsSpec)) typesTextsCard

/-- THE TIED CARD OF 'tripwirelaw15.TypesOfs'. -/
def typesOfsCard : Claim7 := { stood := { row := typesOfsRow, standIns := [], harness := (true, "7b6b5be4307ecd5de338ada6b86a212aaeebb510fb10d2c8b11741afe596bd81"), looks := true }, kinds := [], alts := [], laidByText := true, laidKinds := [.handle], laidTests := true, laidLooks := .later }
def TypesOfsCardSaid : Prop := Claim7.holds Tryz.pinned (.plain (OpenSpec.ofChange typesOfsSpec)) typesOfsCard

/-- THE TIED CARD OF 'tripwirelaw15.TypesChains'. -/
def typesChainsCard : Claim7 := { stood := { row := typesChainsRow, standIns := [], harness := (true, "7b6b5be4307ecd5de338ada6b86a212aaeebb510fb10d2c8b11741afe596bd81"), looks := true }, kinds := [], alts := [], laidByText := true, laidKinds := [.handle], laidTests := true, laidLooks := .later }
def TypesChainsCardSaid : Prop := Claim7.holds Tryz.pinned (.plain (OpenSpec.ofChange typesChainsSpec)) typesChainsCard

/-- THE TIED CARD OF 'tripwirelaw15.TypesParts'. -/
def typesPartsCard : Claim7 := { stood := { row := typesPartsRow, standIns := [], harness := (true, "7b6b5be4307ecd5de338ada6b86a212aaeebb510fb10d2c8b11741afe596bd81"), looks := true }, kinds := [], alts := [], laidByText := true, laidKinds := [.handle], laidTests := true, laidLooks := .later }
def TypesPartsCardSaid : Prop := Claim7.holds Tryz.pinned (.plain (OpenSpec.ofChange typesPartsSpec)) typesPartsCard

/-- THE TIED CARD OF 'tripwirelaw15.TypesNames'. -/
def typesNamesCard : Claim7 := { stood := { row := typesNamesRow, standIns := [], harness := (true, "7b6b5be4307ecd5de338ada6b86a212aaeebb510fb10d2c8b11741afe596bd81"), looks := true }, kinds := [], alts := [], laidByText := true, laidKinds := [.handle], laidTests := true, laidLooks := .later }
def TypesNamesCardSaid : Prop := Claim7.holds Tryz.pinned (.plain (OpenSpec.ofChange typesNamesSpec)) typesNamesCard

/-- THE TIED CARD OF 'tripwirelaw15.TypesTwice'. -/
def typesTwiceCard : Claim7 := { stood := { row := typesTwiceRow, standIns := [], harness := (true, "7b6b5be4307ecd5de338ada6b86a212aaeebb510fb10d2c8b11741afe596bd81"), looks := true }, kinds := [], alts := [], laidByText := true, laidKinds := [.handle], laidTests := true, laidLooks := .later }
def TypesTwiceCardSaid : Prop := Claim7.holds Tryz.pinned (.plain (OpenSpec.ofChange typesTwiceSpec)) typesTwiceCard

/-- THE SECOND FORM's CARD OF 'tripwirelaw15.TypesChecks'. -/
def typesChecksUptoCard : Claim7 := { stood := { row := typesChecksUptoRow, standIns := [], harness := (true, "7b6b5be4307ecd5de338ada6b86a212aaeebb510fb10d2c8b11741afe596bd81"), looks := true }, kinds := [], alts := [], laidByText := true, laidKinds := [.handle], laidTests := true, laidLooks := .later }
def TypesChecksUptoCardSaid : Prop := Claim7.holds Tryz.pinned (.plain (OpenSpec.upto typesChecksSpec)) typesChecksUptoCard

/-- THE SECOND FORM's CARD OF 'tripwirelaw15.TypesTexts'. -/
def typesTextsUptoCard : Claim7 := { stood := { row := typesTextsUptoRow, standIns := [], harness := (true, "7b6b5be4307ecd5de338ada6b86a212aaeebb510fb10d2c8b11741afe596bd81"), looks := true }, kinds := [], alts := [], laidByText := true, laidKinds := [.handle], laidTests := true, laidLooks := .later }
def TypesTextsUptoCardSaid : Prop := Claim7.holds Tryz.pinned (.plain (OpenSpec.upto typesTextsSpec)) typesTextsUptoCard

/-- THE SECOND FORM's CARD OF 'tripwirelaw15.TypesOfs'. -/
def typesOfsUptoCard : Claim7 := { stood := { row := typesOfsUptoRow, standIns := [], harness := (true, "7b6b5be4307ecd5de338ada6b86a212aaeebb510fb10d2c8b11741afe596bd81"), looks := true }, kinds := [], alts := [], laidByText := true, laidKinds := [.handle], laidTests := true, laidLooks := .later }
def TypesOfsUptoCardSaid : Prop := Claim7.holds Tryz.pinned (.plain (OpenSpec.upto typesOfsSpec)) typesOfsUptoCard

/-- THE SECOND FORM's CARD OF 'tripwirelaw15.TypesChains'. -/
def typesChainsUptoCard : Claim7 := { stood := { row := typesChainsUptoRow, standIns := [], harness := (true, "7b6b5be4307ecd5de338ada6b86a212aaeebb510fb10d2c8b11741afe596bd81"), looks := true }, kinds := [], alts := [], laidByText := true, laidKinds := [.handle], laidTests := true, laidLooks := .later }
def TypesChainsUptoCardSaid : Prop := Claim7.holds Tryz.pinned (.plain (OpenSpec.upto typesChainsSpec)) typesChainsUptoCard

/-- THE SECOND FORM's CARD OF 'tripwirelaw15.TypesParts'. -/
def typesPartsUptoCard : Claim7 := { stood := { row := typesPartsUptoRow, standIns := [], harness := (true, "7b6b5be4307ecd5de338ada6b86a212aaeebb510fb10d2c8b11741afe596bd81"), looks := true }, kinds := [], alts := [], laidByText := true, laidKinds := [.handle], laidTests := true, laidLooks := .later }
def TypesPartsUptoCardSaid : Prop := Claim7.holds Tryz.pinned (.plain (OpenSpec.upto typesPartsSpec)) typesPartsUptoCard

/-- THE SECOND FORM's CARD OF 'tripwirelaw15.TypesNames'. -/
def typesNamesUptoCard : Claim7 := { stood := { row := typesNamesUptoRow, standIns := [], harness := (true, "7b6b5be4307ecd5de338ada6b86a212aaeebb510fb10d2c8b11741afe596bd81"), looks := true }, kinds := [], alts := [], laidByText := true, laidKinds := [.handle], laidTests := true, laidLooks := .later }
def TypesNamesUptoCardSaid : Prop := Claim7.holds Tryz.pinned (.plain (OpenSpec.upto typesNamesSpec)) typesNamesUptoCard

/-- THE SECOND FORM's CARD OF 'tripwirelaw15.TypesTwice'. -/
def typesTwiceUptoCard : Claim7 := { stood := { row := typesTwiceUptoRow, standIns := [], harness := (true, "7b6b5be4307ecd5de338ada6b86a212aaeebb510fb10d2c8b11741afe596bd81"), looks := true }, kinds := [], alts := [], laidByText := true, laidKinds := [.handle], laidTests := true, laidLooks := .later }
def TypesTwiceUptoCardSaid : Prop := Claim7.holds Tryz.pinned (.plain (OpenSpec.upto typesTwiceSpec)) typesTwiceUptoCard
end Rows
end Go.Proofs.YtcbilbkafjnenaaGreatDoor
