/-
  DERIVED. GIVEN WITH THE SEED: THE CARDS: each row of YtmbkaikdndflbaaGreatDoorRows.lean that lists a variable, with what it lists TIED to the program's text (the seventh form; the later family's looks); each row that meets fmt, with fmt's text TOLD by the authors' own Lean function (tested against real Go, not proved from fmt's source: count such statements apart). THE CARD IS WHAT COUNTS. Prove the row's statement (the work); the ties are given (YtmbkaikdndflbaaGreatDoorTie.lean); close each card by the builder's one call (the guide's Derived/Test/ToyasCard.lean, 'card_holds'). Laid BY PROGRAM, IN A SANDBOX (cutbox-door.mjs). By AI agents, Wed Nov 11 2026. No macro, syntax, notation, axiom, sorry.
-/
import Derived.Test.YtmbkaikdndflbaaGreatDoorRows
import GoSem.ClaimSeven
namespace Go.Proofs.YtmbkaikdndflbaaGreatDoor
namespace Rows

/-- THE TIED CARD OF 'tripwirelaw16.CostExprs'. -/
def costExprsCard : Claim7 := { stood := { row := costExprsRow, standIns := [], harness := (true, "c2f287cd6fb869ca7b9ca5e94d622e56bf16f3ee657498426b43245f970f71d0"), looks := true }, kinds := [], alts := [], laidByText := true, laidKinds := [.handle], laidTests := true, laidLooks := .later }
def CostExprsCardSaid : Prop := Claim7.holds Tryz.pinned (.plain (OpenSpec.ofChange costExprsSpec)) costExprsCard

/-- THE TIED CARD OF 'tripwirelaw16.CostParts'. -/
def costPartsCard : Claim7 := { stood := { row := costPartsRow, standIns := [], harness := (true, "c2f287cd6fb869ca7b9ca5e94d622e56bf16f3ee657498426b43245f970f71d0"), looks := true }, kinds := [], alts := [], laidByText := true, laidKinds := [.handle], laidTests := true, laidLooks := .later }
def CostPartsCardSaid : Prop := Claim7.holds Tryz.pinned (.plain (OpenSpec.ofChange costPartsSpec)) costPartsCard

/-- THE TIED CARD OF 'tripwirelaw16.CostSizes'. -/
def costSizesCard : Claim7 := { stood := { row := costSizesRow, standIns := [], harness := (true, "c2f287cd6fb869ca7b9ca5e94d622e56bf16f3ee657498426b43245f970f71d0"), looks := true }, kinds := [], alts := [], laidByText := true, laidKinds := [.handle], laidTests := true, laidLooks := .later }
def CostSizesCardSaid : Prop := Claim7.holds Tryz.pinned (.plain (OpenSpec.ofChange costSizesSpec)) costSizesCard

/-- THE TIED CARD OF 'tripwirelaw16.CostStates'. -/
def costStatesCard : Claim7 := { stood := { row := costStatesRow, standIns := [], harness := (true, "c2f287cd6fb869ca7b9ca5e94d622e56bf16f3ee657498426b43245f970f71d0"), looks := true }, kinds := [], alts := [], laidByText := true, laidKinds := [.handle], laidTests := true, laidLooks := .later }
def CostStatesCardSaid : Prop := Claim7.holds Tryz.pinned (.plain (OpenSpec.ofChange costStatesSpec)) costStatesCard

/-- THE TIED CARD OF 'tripwirelaw16.CostStrategies'. -/
def costStrategiesCard : Claim7 := { stood := { row := costStrategiesRow, standIns := [], harness := (true, "c2f287cd6fb869ca7b9ca5e94d622e56bf16f3ee657498426b43245f970f71d0"), looks := true }, kinds := [], alts := [], laidByText := true, laidKinds := [.handle], laidTests := true, laidLooks := .later }
def CostStrategiesCardSaid : Prop := Claim7.holds Tryz.pinned (.plain (OpenSpec.ofChange costStrategiesSpec)) costStrategiesCard

/-- THE TIED CARD OF 'tripwirelaw16.CostMore'. -/
def costMoreCard : Claim7 := { stood := { row := costMoreRow, standIns := [], harness := (true, "c2f287cd6fb869ca7b9ca5e94d622e56bf16f3ee657498426b43245f970f71d0"), looks := true }, kinds := [], alts := [], laidByText := true, laidKinds := [.handle], laidTests := true, laidLooks := .later }
def CostMoreCardSaid : Prop := Claim7.holds Tryz.pinned (.plain (OpenSpec.ofChange costMoreSpec)) costMoreCard

/-- THE SECOND FORM's CARD OF 'tripwirelaw16.CostExprs'. -/
def costExprsUptoCard : Claim7 := { stood := { row := costExprsUptoRow, standIns := [], harness := (true, "c2f287cd6fb869ca7b9ca5e94d622e56bf16f3ee657498426b43245f970f71d0"), looks := true }, kinds := [], alts := [], laidByText := true, laidKinds := [.handle], laidTests := true, laidLooks := .later }
def CostExprsUptoCardSaid : Prop := Claim7.holds Tryz.pinned (.plain (OpenSpec.upto costExprsSpec)) costExprsUptoCard

/-- THE SECOND FORM's CARD OF 'tripwirelaw16.CostParts'. -/
def costPartsUptoCard : Claim7 := { stood := { row := costPartsUptoRow, standIns := [], harness := (true, "c2f287cd6fb869ca7b9ca5e94d622e56bf16f3ee657498426b43245f970f71d0"), looks := true }, kinds := [], alts := [], laidByText := true, laidKinds := [.handle], laidTests := true, laidLooks := .later }
def CostPartsUptoCardSaid : Prop := Claim7.holds Tryz.pinned (.plain (OpenSpec.upto costPartsSpec)) costPartsUptoCard

/-- THE SECOND FORM's CARD OF 'tripwirelaw16.CostSizes'. -/
def costSizesUptoCard : Claim7 := { stood := { row := costSizesUptoRow, standIns := [], harness := (true, "c2f287cd6fb869ca7b9ca5e94d622e56bf16f3ee657498426b43245f970f71d0"), looks := true }, kinds := [], alts := [], laidByText := true, laidKinds := [.handle], laidTests := true, laidLooks := .later }
def CostSizesUptoCardSaid : Prop := Claim7.holds Tryz.pinned (.plain (OpenSpec.upto costSizesSpec)) costSizesUptoCard

/-- THE SECOND FORM's CARD OF 'tripwirelaw16.CostStates'. -/
def costStatesUptoCard : Claim7 := { stood := { row := costStatesUptoRow, standIns := [], harness := (true, "c2f287cd6fb869ca7b9ca5e94d622e56bf16f3ee657498426b43245f970f71d0"), looks := true }, kinds := [], alts := [], laidByText := true, laidKinds := [.handle], laidTests := true, laidLooks := .later }
def CostStatesUptoCardSaid : Prop := Claim7.holds Tryz.pinned (.plain (OpenSpec.upto costStatesSpec)) costStatesUptoCard

/-- THE SECOND FORM's CARD OF 'tripwirelaw16.CostStrategies'. -/
def costStrategiesUptoCard : Claim7 := { stood := { row := costStrategiesUptoRow, standIns := [], harness := (true, "c2f287cd6fb869ca7b9ca5e94d622e56bf16f3ee657498426b43245f970f71d0"), looks := true }, kinds := [], alts := [], laidByText := true, laidKinds := [.handle], laidTests := true, laidLooks := .later }
def CostStrategiesUptoCardSaid : Prop := Claim7.holds Tryz.pinned (.plain (OpenSpec.upto costStrategiesSpec)) costStrategiesUptoCard

/-- THE SECOND FORM's CARD OF 'tripwirelaw16.CostMore'. -/
def costMoreUptoCard : Claim7 := { stood := { row := costMoreUptoRow, standIns := [], harness := (true, "c2f287cd6fb869ca7b9ca5e94d622e56bf16f3ee657498426b43245f970f71d0"), looks := true }, kinds := [], alts := [], laidByText := true, laidKinds := [.handle], laidTests := true, laidLooks := .later }
def CostMoreUptoCardSaid : Prop := Claim7.holds Tryz.pinned (.plain (OpenSpec.upto costMoreSpec)) costMoreUptoCard
end Rows
end Go.Proofs.YtmbkaikdndflbaaGreatDoor
