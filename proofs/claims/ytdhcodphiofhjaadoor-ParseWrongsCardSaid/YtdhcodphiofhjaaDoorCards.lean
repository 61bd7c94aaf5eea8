/-
  DERIVED. GIVEN WITH THE SEED: THE CARDS: each row of YtdhcodphiofhjaaDoorRows.lean that lists a variable, with what it lists TIED to the program's text (the seventh form; the later family's looks); each row that meets fmt, with fmt's text TOLD by the authors' own Lean function (tested against real Go, not proved from fmt's source: count such statements apart). THE CARD IS WHAT COUNTS. Prove the row's statement (the work); the ties are given (YtdhcodphiofhjaaDoorTie.lean); close each card by the builder's one call (the guide's Derived/Test/ToyasCard.lean, 'card_holds'). Laid BY PROGRAM, IN A SANDBOX (cutbox-door.mjs). By AI agents, Wed Nov 11 2026. No macro, syntax, notation, axiom, sorry.
-/
import Derived.Test.YtdhcodphiofhjaaDoorRows
import GoSem.ClaimSeven
namespace Go.Proofs.YtdhcodphiofhjaaDoor
namespace Rows

/-- THE TIED CARD OF 'tripwirelaw13.ParseBrackets'. -/
def parseBracketsCard : Claim7 := { stood := { row := parseBracketsRow, standIns := [], harness := (true, "daa81fee97470b41755a1a2ba18836a16b76c092bc2f1a7dc1222b0c1475c420"), looks := true }, kinds := [], alts := [], laidByText := true, laidKinds := [.handle], laidTests := true, laidLooks := .later }
def ParseBracketsCardSaid : Prop := Claim7.holds Tryd.pinned (.plain (OpenSpec.ofChange parseBracketsSpec)) parseBracketsCard

/-- THE TIED CARD OF 'tripwirelaw13.ParseWrongs'. -/
def parseWrongsCard : Claim7 := { stood := { row := parseWrongsRow, standIns := [], harness := (true, "daa81fee97470b41755a1a2ba18836a16b76c092bc2f1a7dc1222b0c1475c420"), looks := true }, kinds := [], alts := [], laidByText := true, laidKinds := [.handle], laidTests := true, laidLooks := .later }
def ParseWrongsCardSaid : Prop := Claim7.holds Tryd.pinned (.plain (OpenSpec.ofChange parseWrongsSpec)) parseWrongsCard

/-- THE SECOND FORM's CARD OF 'tripwirelaw13.ParseBrackets'. -/
def parseBracketsUptoCard : Claim7 := { stood := { row := parseBracketsUptoRow, standIns := [], harness := (true, "daa81fee97470b41755a1a2ba18836a16b76c092bc2f1a7dc1222b0c1475c420"), looks := true }, kinds := [], alts := [], laidByText := true, laidKinds := [.handle], laidTests := true, laidLooks := .later }
def ParseBracketsUptoCardSaid : Prop := Claim7.holds Tryd.pinned (.plain (OpenSpec.upto parseBracketsSpec)) parseBracketsUptoCard

/-- THE SECOND FORM's CARD OF 'tripwirelaw13.ParseWrongs'. -/
def parseWrongsUptoCard : Claim7 := { stood := { row := parseWrongsUptoRow, standIns := [], harness := (true, "daa81fee97470b41755a1a2ba18836a16b76c092bc2f1a7dc1222b0c1475c420"), looks := true }, kinds := [], alts := [], laidByText := true, laidKinds := [.handle], laidTests := true, laidLooks := .later }
def ParseWrongsUptoCardSaid : Prop := Claim7.holds Tryd.pinned (.plain (OpenSpec.upto parseWrongsSpec)) parseWrongsUptoCard
end Rows
end Go.Proofs.YtdhcodphiofhjaaDoor
