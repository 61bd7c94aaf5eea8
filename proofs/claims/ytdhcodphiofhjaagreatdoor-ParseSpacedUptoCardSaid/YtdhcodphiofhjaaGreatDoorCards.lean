/-
  DERIVED. GIVEN WITH THE SEED: THE CARDS: each row of YtdhcodphiofhjaaGreatDoorRows.lean that lists a variable, with what it lists TIED to the program's text (the seventh form; the later family's looks); each row that meets fmt, with fmt's text TOLD by the authors' own Lean function (tested against real Go, not proved from fmt's source: count such statements apart). THE CARD IS WHAT COUNTS. Prove the row's statement (the work); the ties are given (YtdhcodphiofhjaaGreatDoorTie.lean); close each card by the builder's one call (the guide's Derived/Test/ToyasCard.lean, 'card_holds'). Laid BY PROGRAM, IN A SANDBOX (cutbox-door.mjs). By AI agents, Wed Nov 11 2026. No macro, syntax, notation, axiom, sorry.
-/
import Derived.Test.YtdhcodphiofhjaaGreatDoorRows
import GoSem.ClaimSeven
namespace Go.Proofs.YtdhcodphiofhjaaGreatDoor
namespace Rows

/-- THE TIED CARD OF 'tripwirelaw13.ParseStrategies'. -/
def parseStrategiesCard : Claim7 := { stood := { row := parseStrategiesRow, standIns := [], harness := (true, "b99a7a85c501d9f24c7ad97f4d34f0aaf729681f8330a815984032e51fb6ea32"), looks := true }, kinds := [], alts := [], laidByText := true, laidKinds := [.handle], laidTests := true, laidLooks := .later }
def ParseStrategiesCardSaid : Prop := Claim7.holds Tryz.pinned (.plain (OpenSpec.ofChange parseStrategiesSpec)) parseStrategiesCard

/-- THE TIED CARD OF 'tripwirelaw13.ParseExprs'. -/
def parseExprsCard : Claim7 := { stood := { row := parseExprsRow, standIns := [], harness := (true, "b99a7a85c501d9f24c7ad97f4d34f0aaf729681f8330a815984032e51fb6ea32"), looks := true }, kinds := [], alts := [], laidByText := true, laidKinds := [.handle], laidTests := true, laidLooks := .later }
def ParseExprsCardSaid : Prop := Claim7.holds Tryz.pinned (.plain (OpenSpec.ofChange parseExprsSpec)) parseExprsCard

/-- THE TIED CARD OF 'tripwirelaw13.ParseChains'. -/
def parseChainsCard : Claim7 := { stood := { row := parseChainsRow, standIns := [], harness := (true, "b99a7a85c501d9f24c7ad97f4d34f0aaf729681f8330a815984032e51fb6ea32"), looks := true }, kinds := [], alts := [], laidByText := true, laidKinds := [.handle], laidTests := true, laidLooks := .later }
def ParseChainsCardSaid : Prop := Claim7.holds Tryz.pinned (.plain (OpenSpec.ofChange parseChainsSpec)) parseChainsCard

/-- THE TIED CARD OF 'tripwirelaw13.ParseSound'. -/
def parseSoundCard : Claim7 := { stood := { row := parseSoundRow, standIns := [], harness := (true, "b99a7a85c501d9f24c7ad97f4d34f0aaf729681f8330a815984032e51fb6ea32"), looks := true }, kinds := [], alts := [], laidByText := true, laidKinds := [.handle], laidTests := true, laidLooks := .later }
def ParseSoundCardSaid : Prop := Claim7.holds Tryz.pinned (.plain (OpenSpec.ofChange parseSoundSpec)) parseSoundCard

/-- THE TIED CARD OF 'tripwirelaw13.ParseSpaced'. -/
def parseSpacedCard : Claim7 := { stood := { row := parseSpacedRow, standIns := [], harness := (true, "b99a7a85c501d9f24c7ad97f4d34f0aaf729681f8330a815984032e51fb6ea32"), looks := true }, kinds := [], alts := [], laidByText := true, laidKinds := [.handle], laidTests := true, laidLooks := .later }
def ParseSpacedCardSaid : Prop := Claim7.holds Tryz.pinned (.plain (OpenSpec.ofChange parseSpacedSpec)) parseSpacedCard

/-- THE TIED CARD OF 'tripwirelaw13.ParseWraps'. -/
def parseWrapsCard : Claim7 := { stood := { row := parseWrapsRow, standIns := [], harness := (true, "b99a7a85c501d9f24c7ad97f4d34f0aaf729681f8330a815984032e51fb6ea32"), looks := true }, kinds := [], alts := [], laidByText := true, laidKinds := [.handle], laidTests := true, laidLooks := .later }
def ParseWrapsCardSaid : Prop := Claim7.holds Tryz.pinned (.plain (OpenSpec.ofChange parseWrapsSpec)) parseWrapsCard

/-- THE SECOND FORM's CARD OF 'tripwirelaw13.ParseStrategies'. -/
def parseStrategiesUptoCard : Claim7 := { stood := { row := parseStrategiesUptoRow, standIns := [], harness := (true, "b99a7a85c501d9f24c7ad97f4d34f0aaf729681f8330a815984032e51fb6ea32"), looks := true }, kinds := [], alts := [], laidByText := true, laidKinds := [.handle], laidTests := true, laidLooks := .later }
def ParseStrategiesUptoCardSaid : Prop := Claim7.holds Tryz.pinned (.plain (OpenSpec.upto parseStrategiesSpec)) parseStrategiesUptoCard

/-- THE SECOND FORM's CARD OF 'tripwirelaw13.ParseExprs'. -/
def parseExprsUptoCard : Claim7 := { stood := { row := parseExprsUptoRow, standIns := [], harness := (true, "b99a7a85c501d9f24c7ad97f4d34f0aaf729681f8330a815984032e51fb6ea32"), looks := true }, kinds := [], alts := [], laidByText := true, laidKinds := [.handle], laidTests := true, laidLooks := .later }
def ParseExprsUptoCardSaid : Prop := Claim7.holds Tryz.pinned (.plain (OpenSpec.upto parseExprsSpec)) parseExprsUptoCard

/-- THE SECOND FORM's CARD OF 'tripwirelaw13.ParseChains'. -/
def parseChainsUptoCard : Claim7 := { stood := { row := parseChainsUptoRow, standIns := [], harness := (true, "b99a7a85c501d9f24c7ad97f4d34f0aaf729681f8330a815984032e51fb6ea32"), looks := true }, kinds := [], alts := [], laidByText := true, laidKinds := [.handle], laidTests := true, laidLooks := .later }
def ParseChainsUptoCardSaid : Prop := Claim7.holds Tryz.pinned (.plain (OpenSpec.upto parseChainsSpec)) parseChainsUptoCard

/-- THE SECOND FORM's CARD OF 'tripwirelaw13.ParseSound'. -/
def parseSoundUptoCard : Claim7 := { stood := { row := parseSoundUptoRow, standIns := [], harness := (true, "b99a7a85c501d9f24c7ad97f4d34f0aaf729681f8330a815984032e51fb6ea32"), looks := true }, kinds := [], alts := [], laidByText := true, laidKinds := [.handle], laidTests := true, laidLooks := .later }
def ParseSoundUptoCardSaid : Prop := Claim7.holds Tryz.pinned (.plain (OpenSpec.upto parseSoundSpec)) parseSoundUptoCard

/-- THE SECOND FORM's CARD OF 'tripwirelaw13.ParseSpaced'. -/
def parseSpacedUptoCard : Claim7 := { stood := { row := parseSpacedUptoRow, standIns := [], harness := (true, "b99a7a85c501d9f24c7ad97f4d34f0aaf729681f8330a815984032e51fb6ea32"), looks := true }, kinds := [], alts := [], laidByText := true, laidKinds := [.handle], laidTests := true, laidLooks := .later }
def ParseSpacedUptoCardSaid : Prop := Claim7.holds Tryz.pinned (.plain (OpenSpec.upto parseSpacedSpec)) parseSpacedUptoCard

/-- THE SECOND FORM's CARD OF 'tripwirelaw13.ParseWraps'. -/
def parseWrapsUptoCard : Claim7 := { stood := { row := parseWrapsUptoRow, standIns := [], harness := (true, "b99a7a85c501d9f24c7ad97f4d34f0aaf729681f8330a815984032e51fb6ea32"), looks := true }, kinds := [], alts := [], laidByText := true, laidKinds := [.handle], laidTests := true, laidLooks := .later }
def ParseWrapsUptoCardSaid : Prop := Claim7.holds Tryz.pinned (.plain (OpenSpec.upto parseWrapsSpec)) parseWrapsUptoCard
end Rows
end Go.Proofs.YtdhcodphiofhjaaGreatDoor
