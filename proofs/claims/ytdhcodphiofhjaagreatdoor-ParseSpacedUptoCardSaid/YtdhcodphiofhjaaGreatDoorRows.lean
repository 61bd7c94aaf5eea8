/-
  NARROWER THAN 'FOR EVERY INPUT', by the rows' own cells (each row's printed sentence says how): ParseStrategies: laid · ParseExprs: laid · ParseChains: laid · ParseSound: laid · ParseSpaced: laid · ParseWraps: laid.
  DERIVED. THE GIVEN ROWS OF THIS SEAT. 6 by the template 'for every input the law returns true; each argument reads behind the call as it read before'; 0 by the template 'total and deterministic' (their statements: YtdhcodphiofhjaaGreatDoorTotals.lean).
  GIVEN WITH THE SEED: the statements are not yours to turn. If you find one false, say at which input.
  Laid BY PROGRAM, IN A SANDBOX (cutbox-rows.mjs): the forced cells as the released guide's own fill.sh prints them over the translation 7f70c2707817bd70… (all of the seat's roots in one cut). By AI agents, Wed Nov 11 2026. No macro, syntax, notation, axiom, sorry.
-/
import Derived.Test.YtdhcodphiofhjaaGreatDoorChecked
import GoSem.Claim
import GoSem.ClaimJoined
import GoSem.ClaimMapViews
import Derived.JoinedTies
import Derived.KernelRfl
namespace Go.Proofs.YtdhcodphiofhjaaGreatDoor
/- THE CELL 'sum', in the pinned program and in every row, IS THE sha256 OF THE DUMP (.gsa) THAT YtdhcodphiofhjaaGreatDoorProg.lean LOADS. Nothing in Lean hashes anything: it is a label: what it is worth is what the hold of that sum in a sandbox is worth. -/
noncomputable def Tryz.pinned : Pinned := { name := "ytdhcodphiofhjaagreatdoor", sum := "7f70c2707817bd701a140925a1bccf7b1e87e5d9a72a99e8aa46bf25f7720f57", checked := Tryz.checked }
namespace Rows
def none {H : Type} : Left H := { results := [], args := [] }

/- WHAT THE LISTED PACKAGE-LEVEL VARIABLES READ AS WHEN THE CALL BEGINS. Each datum BY PROGRAM (the guide's laid-datum.mjs) off the statement by which the dump's own 'gosem.cut.vars' lays the variable. In a bare row this is a premise. The card (YtdhcodphiofhjaaGreatDoorCards.lean) ties it to the program's text. -/
def laid_errors_errorType {H : Type} : DataW H := .iface "internal/reflectlite.rtype" (.agg [.ptr (.lit (.string [101, 114, 114, 111, 114]))])

/-- 'tripwirelaw13.ParseStrategies': WHATEVER THE INPUT: true; the input reads as it did. -/
def parseStrategiesSpec : ChangeSpec := { name := "parseStrategies", fn := fun _ => fun
  | [d1, d2] => { results := [.lit (.bool true)], args := [d1, d2] }
  | _ => none }
def parseStrategiesRow : OpenClaim := { program := "ytdhcodphiofhjaagreatdoor", sum := "7f70c2707817bd701a140925a1bccf7b1e87e5d9a72a99e8aa46bf25f7720f57", func := "tripwire/tripwirelaw13.ParseStrategies", spec := "parseStrategies", inPlace := ["internal/reflectlite.ValueOf", "(internal/reflectlite.Value).Type", "(internal/reflectlite.Value).IsNil", "internal/reflectlite.TypeOf", "(internal/reflectlite.Value).Elem", "(internal/reflectlite.Value).Set"], unfollowed := true, recurses := true, named := ["errors.errorType"], apart := false, laid := [("errors.errorType", laid_errors_errorType)] }
def ParseStrategiesSaid : Prop := parseStrategiesRow.holds Tryz.pinned (OpenSpec.ofChange parseStrategiesSpec)

/-- ITS FALSE NEIGHBOUR: 'it returns false'. Refute it at one input. -/
def parseStrategiesWrong : ChangeSpec := { name := "parseStrategies", fn := fun _ => fun
  | [d1, d2] => { results := [.lit (.bool false)], args := [d1, d2] }
  | _ => none }
def ParseStrategiesWrongFalsely : Prop := parseStrategiesRow.holds Tryz.pinned (OpenSpec.ofChange parseStrategiesWrong)

/-- 'tripwirelaw13.ParseExprs': WHATEVER THE INPUT: true; the input reads as it did. -/
def parseExprsSpec : ChangeSpec := { name := "parseExprs", fn := fun _ => fun
  | [d1, d2] => { results := [.lit (.bool true)], args := [d1, d2] }
  | _ => none }
def parseExprsRow : OpenClaim := { program := "ytdhcodphiofhjaagreatdoor", sum := "7f70c2707817bd701a140925a1bccf7b1e87e5d9a72a99e8aa46bf25f7720f57", func := "tripwire/tripwirelaw13.ParseExprs", spec := "parseExprs", inPlace := ["internal/reflectlite.ValueOf", "(internal/reflectlite.Value).Type", "(internal/reflectlite.Value).IsNil", "internal/reflectlite.TypeOf", "(internal/reflectlite.Value).Elem", "(internal/reflectlite.Value).Set"], unfollowed := true, recurses := true, named := ["errors.errorType"], apart := false, laid := [("errors.errorType", laid_errors_errorType)] }
def ParseExprsSaid : Prop := parseExprsRow.holds Tryz.pinned (OpenSpec.ofChange parseExprsSpec)

/-- ITS FALSE NEIGHBOUR: 'it returns false'. Refute it at one input. -/
def parseExprsWrong : ChangeSpec := { name := "parseExprs", fn := fun _ => fun
  | [d1, d2] => { results := [.lit (.bool false)], args := [d1, d2] }
  | _ => none }
def ParseExprsWrongFalsely : Prop := parseExprsRow.holds Tryz.pinned (OpenSpec.ofChange parseExprsWrong)

/-- 'tripwirelaw13.ParseChains': WHATEVER THE INPUT: true; the input reads as it did. -/
def parseChainsSpec : ChangeSpec := { name := "parseChains", fn := fun _ => fun
  | [d] => { results := [.lit (.bool true)], args := [d] }
  | _ => none }
def parseChainsRow : OpenClaim := { program := "ytdhcodphiofhjaagreatdoor", sum := "7f70c2707817bd701a140925a1bccf7b1e87e5d9a72a99e8aa46bf25f7720f57", func := "tripwire/tripwirelaw13.ParseChains", spec := "parseChains", inPlace := ["internal/reflectlite.ValueOf", "(internal/reflectlite.Value).Type", "(internal/reflectlite.Value).IsNil", "internal/reflectlite.TypeOf", "(internal/reflectlite.Value).Elem", "(internal/reflectlite.Value).Set"], unfollowed := true, recurses := true, named := ["errors.errorType"], apart := false, laid := [("errors.errorType", laid_errors_errorType)] }
def ParseChainsSaid : Prop := parseChainsRow.holds Tryz.pinned (OpenSpec.ofChange parseChainsSpec)

/-- ITS FALSE NEIGHBOUR: 'it returns false'. Refute it at one input. -/
def parseChainsWrong : ChangeSpec := { name := "parseChains", fn := fun _ => fun
  | [d] => { results := [.lit (.bool false)], args := [d] }
  | _ => none }
def ParseChainsWrongFalsely : Prop := parseChainsRow.holds Tryz.pinned (OpenSpec.ofChange parseChainsWrong)

/-- 'tripwirelaw13.ParseSound': WHATEVER THE INPUT: true; the input reads as it did. -/
def parseSoundSpec : ChangeSpec := { name := "parseSound", fn := fun _ => fun
  | [d1, d2] => { results := [.lit (.bool true)], args := [d1, d2] }
  | _ => none }
def parseSoundRow : OpenClaim := { program := "ytdhcodphiofhjaagreatdoor", sum := "7f70c2707817bd701a140925a1bccf7b1e87e5d9a72a99e8aa46bf25f7720f57", func := "tripwire/tripwirelaw13.ParseSound", spec := "parseSound", inPlace := ["internal/reflectlite.ValueOf", "(internal/reflectlite.Value).Type", "(internal/reflectlite.Value).IsNil", "internal/reflectlite.TypeOf", "(internal/reflectlite.Value).Elem", "(internal/reflectlite.Value).Set"], unfollowed := true, recurses := true, named := ["errors.errorType"], apart := false, laid := [("errors.errorType", laid_errors_errorType)] }
def ParseSoundSaid : Prop := parseSoundRow.holds Tryz.pinned (OpenSpec.ofChange parseSoundSpec)

/-- ITS FALSE NEIGHBOUR: 'it returns false'. Refute it at one input. -/
def parseSoundWrong : ChangeSpec := { name := "parseSound", fn := fun _ => fun
  | [d1, d2] => { results := [.lit (.bool false)], args := [d1, d2] }
  | _ => none }
def ParseSoundWrongFalsely : Prop := parseSoundRow.holds Tryz.pinned (OpenSpec.ofChange parseSoundWrong)

/-- 'tripwirelaw13.ParseSpaced': WHATEVER THE INPUT: true; the input reads as it did. -/
def parseSpacedSpec : ChangeSpec := { name := "parseSpaced", fn := fun _ => fun
  | [d1, d2] => { results := [.lit (.bool true)], args := [d1, d2] }
  | _ => none }
def parseSpacedRow : OpenClaim := { program := "ytdhcodphiofhjaagreatdoor", sum := "7f70c2707817bd701a140925a1bccf7b1e87e5d9a72a99e8aa46bf25f7720f57", func := "tripwire/tripwirelaw13.ParseSpaced", spec := "parseSpaced", inPlace := ["internal/reflectlite.ValueOf", "(internal/reflectlite.Value).Type", "(internal/reflectlite.Value).IsNil", "internal/reflectlite.TypeOf", "(internal/reflectlite.Value).Elem", "(internal/reflectlite.Value).Set"], unfollowed := true, recurses := true, named := ["errors.errorType"], apart := false, laid := [("errors.errorType", laid_errors_errorType)] }
def ParseSpacedSaid : Prop := parseSpacedRow.holds Tryz.pinned (OpenSpec.ofChange parseSpacedSpec)

/-- ITS FALSE NEIGHBOUR: 'it returns false'. Refute it at one input. -/
def parseSpacedWrong : ChangeSpec := { name := "parseSpaced", fn := fun _ => fun
  | [d1, d2] => { results := [.lit (.bool false)], args := [d1, d2] }
  | _ => none }
def ParseSpacedWrongFalsely : Prop := parseSpacedRow.holds Tryz.pinned (OpenSpec.ofChange parseSpacedWrong)

/-- 'tripwirelaw13.ParseWraps': WHATEVER THE INPUT: true; the input reads as it did. -/
def parseWrapsSpec : ChangeSpec := { name := "parseWraps", fn := fun _ => fun
  | [d] => { results := [.lit (.bool true)], args := [d] }
  | _ => none }
def parseWrapsRow : OpenClaim := { program := "ytdhcodphiofhjaagreatdoor", sum := "7f70c2707817bd701a140925a1bccf7b1e87e5d9a72a99e8aa46bf25f7720f57", func := "tripwire/tripwirelaw13.ParseWraps", spec := "parseWraps", inPlace := ["internal/reflectlite.ValueOf", "(internal/reflectlite.Value).Type", "(internal/reflectlite.Value).IsNil", "internal/reflectlite.TypeOf", "(internal/reflectlite.Value).Elem", "(internal/reflectlite.Value).Set"], unfollowed := true, recurses := true, named := ["errors.errorType"], apart := false, laid := [("errors.errorType", laid_errors_errorType)] }
def ParseWrapsSaid : Prop := parseWrapsRow.holds Tryz.pinned (OpenSpec.ofChange parseWrapsSpec)

/-- ITS FALSE NEIGHBOUR: 'it returns false'. Refute it at one input. -/
def parseWrapsWrong : ChangeSpec := { name := "parseWraps", fn := fun _ => fun
  | [d] => { results := [.lit (.bool false)], args := [d] }
  | _ => none }
def ParseWrapsWrongFalsely : Prop := parseWrapsRow.holds Tryz.pinned (OpenSpec.ofChange parseWrapsWrong)

/- THE SECOND FORM. 'bulk': how many values and letters a reading holds, each counted each time it is reached (what is shared counts as often as it is met; a slice's spare places count too). A statement '..UptoSaid' is the law's where the arguments, and the package variables that the reading takes, are together of bulk at most 1048576: NARROWER than '..Said'. Prove '..Said' where nothing that the law and all that it calls make is longer than what came in: it says more and counts as full. Else prove '..UptoSaid'. A law counts once. -/
mutual
def uptoBulk {H : Type} : DataW H → Nat
  | .lit (.string bytes) => bytes.length + 1
  | .lit _ => 1
  | .nil => 1
  | .ptr d => uptoBulk d + 1
  | .slice elems spare => uptoBulkAll elems + uptoBulkAll spare + 1
  | .agg parts => uptoBulkAll parts + 1
  | .iface _ d => uptoBulk d + 1
  | .map entries => uptoBulkEntries entries + 1
  | .held _ => 1
def uptoBulkAll {H : Type} : List (DataW H) → Nat
  | [] => 0
  | d :: r => uptoBulk d + uptoBulkAll r
def uptoBulkEntries {H : Type} : List (Lit × DataW H) → Nat
  | [] => 0
  | x :: r => uptoBulkEntry x + uptoBulkEntries r
def uptoBulkEntry {H : Type} : Lit × DataW H → Nat
  | (.string bytes, d) => bytes.length + uptoBulk d + 1
  | (_, d) => uptoBulk d + 1
 end
def uptoSmall : (H : Type) → List (DataW H) → Bool := fun _ ds => decide (uptoBulkAll ds ≤ 1048576)
def OpenSpec.upto (s : _root_.Go.ChangeSpec) : _root_.Go.OpenSpec := { _root_.Go.OpenSpec.ofChange s with cond := some uptoSmall }

/-- 'tripwirelaw13.ParseStrategies', WHERE WHAT IT READS IS OF BULK AT MOST 1048576: true; the input reads as it did. -/
def parseStrategiesUptoRow : OpenClaim := { program := "ytdhcodphiofhjaagreatdoor", sum := "7f70c2707817bd701a140925a1bccf7b1e87e5d9a72a99e8aa46bf25f7720f57", func := "tripwire/tripwirelaw13.ParseStrategies", spec := "parseStrategies", inPlace := ["internal/reflectlite.ValueOf", "(internal/reflectlite.Value).Type", "(internal/reflectlite.Value).IsNil", "internal/reflectlite.TypeOf", "(internal/reflectlite.Value).Elem", "(internal/reflectlite.Value).Set"], unfollowed := true, recurses := true, named := ["errors.errorType"], apart := false, laid := [("errors.errorType", laid_errors_errorType)], narrowed := true }
def ParseStrategiesUptoSaid : Prop := parseStrategiesUptoRow.holds Tryz.pinned (OpenSpec.upto parseStrategiesSpec)

/-- 'tripwirelaw13.ParseExprs', WHERE WHAT IT READS IS OF BULK AT MOST 1048576: true; the input reads as it did. -/
def parseExprsUptoRow : OpenClaim := { program := "ytdhcodphiofhjaagreatdoor", sum := "7f70c2707817bd701a140925a1bccf7b1e87e5d9a72a99e8aa46bf25f7720f57", func := "tripwire/tripwirelaw13.ParseExprs", spec := "parseExprs", inPlace := ["internal/reflectlite.ValueOf", "(internal/reflectlite.Value).Type", "(internal/reflectlite.Value).IsNil", "internal/reflectlite.TypeOf", "(internal/reflectlite.Value).Elem", "(internal/reflectlite.Value).Set"], unfollowed := true, recurses := true, named := ["errors.errorType"], apart := false, laid := [("errors.errorType", laid_errors_errorType)], narrowed := true }
def ParseExprsUptoSaid : Prop := parseExprsUptoRow.holds Tryz.pinned (OpenSpec.upto parseExprsSpec)

/-- 'tripwirelaw13.ParseChains', WHERE WHAT IT READS IS OF BULK AT MOST 1048576: true; the input reads as it did. -/
def parseChainsUptoRow : OpenClaim := { program := "ytdhcodphiofhjaagreatdoor", sum := "7f70c2707817bd701a140925a1bccf7b1e87e5d9a72a99e8aa46bf25f7720f57", func := "tripwire/tripwirelaw13.ParseChains", spec := "parseChains", inPlace := ["internal/reflectlite.ValueOf", "(internal/reflectlite.Value).Type", "(internal/reflectlite.Value).IsNil", "internal/reflectlite.TypeOf", "(internal/reflectlite.Value).Elem", "(internal/reflectlite.Value).Set"], unfollowed := true, recurses := true, named := ["errors.errorType"], apart := false, laid := [("errors.errorType", laid_errors_errorType)], narrowed := true }
def ParseChainsUptoSaid : Prop := parseChainsUptoRow.holds Tryz.pinned (OpenSpec.upto parseChainsSpec)

/-- 'tripwirelaw13.ParseSound', WHERE WHAT IT READS IS OF BULK AT MOST 1048576: true; the input reads as it did. -/
def parseSoundUptoRow : OpenClaim := { program := "ytdhcodphiofhjaagreatdoor", sum := "7f70c2707817bd701a140925a1bccf7b1e87e5d9a72a99e8aa46bf25f7720f57", func := "tripwire/tripwirelaw13.ParseSound", spec := "parseSound", inPlace := ["internal/reflectlite.ValueOf", "(internal/reflectlite.Value).Type", "(internal/reflectlite.Value).IsNil", "internal/reflectlite.TypeOf", "(internal/reflectlite.Value).Elem", "(internal/reflectlite.Value).Set"], unfollowed := true, recurses := true, named := ["errors.errorType"], apart := false, laid := [("errors.errorType", laid_errors_errorType)], narrowed := true }
def ParseSoundUptoSaid : Prop := parseSoundUptoRow.holds Tryz.pinned (OpenSpec.upto parseSoundSpec)

/-- 'tripwirelaw13.ParseSpaced', WHERE WHAT IT READS IS OF BULK AT MOST 1048576: true; the input reads as it did. -/
def parseSpacedUptoRow : OpenClaim := { program := "ytdhcodphiofhjaagreatdoor", sum := "7f70c2707817bd701a140925a1bccf7b1e87e5d9a72a99e8aa46bf25f7720f57", func := "tripwire/tripwirelaw13.ParseSpaced", spec := "parseSpaced", inPlace := ["internal/reflectlite.ValueOf", "(internal/reflectlite.Value).Type", "(internal/reflectlite.Value).IsNil", "internal/reflectlite.TypeOf", "(internal/reflectlite.Value).Elem", "(internal/reflectlite.Value).Set"], unfollowed := true, recurses := true, named := ["errors.errorType"], apart := false, laid := [("errors.errorType", laid_errors_errorType)], narrowed := true }
def ParseSpacedUptoSaid : Prop := parseSpacedUptoRow.holds Tryz.pinned (OpenSpec.upto parseSpacedSpec)

/-- 'tripwirelaw13.ParseWraps', WHERE WHAT IT READS IS OF BULK AT MOST 1048576: true; the input reads as it did. -/
def parseWrapsUptoRow : OpenClaim := { program := "ytdhcodphiofhjaagreatdoor", sum := "7f70c2707817bd701a140925a1bccf7b1e87e5d9a72a99e8aa46bf25f7720f57", func := "tripwire/tripwirelaw13.ParseWraps", spec := "parseWraps", inPlace := ["internal/reflectlite.ValueOf", "(internal/reflectlite.Value).Type", "(internal/reflectlite.Value).IsNil", "internal/reflectlite.TypeOf", "(internal/reflectlite.Value).Elem", "(internal/reflectlite.Value).Set"], unfollowed := true, recurses := true, named := ["errors.errorType"], apart := false, laid := [("errors.errorType", laid_errors_errorType)], narrowed := true }
def ParseWrapsUptoSaid : Prop := parseWrapsUptoRow.holds Tryz.pinned (OpenSpec.upto parseWrapsSpec)

end Rows
end Go.Proofs.YtdhcodphiofhjaaGreatDoor
