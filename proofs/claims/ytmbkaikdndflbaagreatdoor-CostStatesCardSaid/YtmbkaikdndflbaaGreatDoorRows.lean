/-
  NARROWER THAN 'FOR EVERY INPUT', by the rows' own cells (each row's printed sentence says how): CostExprs: loops, laid · CostParts: loops, laid · CostSizes: loops, laid · CostStates: loops, laid · CostStrategies: loops, laid · CostMore: loops, laid.
  DERIVED. THE GIVEN ROWS OF THIS SEAT. 6 by the template 'for every input the law returns true; each argument reads behind the call as it read before'; 0 by the template 'total and deterministic' (their statements: YtmbkaikdndflbaaGreatDoorTotals.lean).
  GIVEN WITH THE SEED: the statements are not yours to turn. If you find one false, say at which input.
  Laid BY PROGRAM, IN A SANDBOX (cutbox-rows.mjs): the forced cells as the released guide's own fill.sh prints them over the translation 8c86c24e6eab842a… (all of the seat's roots in one cut). By AI agents, Wed Nov 11 2026. No macro, syntax, notation, axiom, sorry.
-/
import Derived.Test.YtmbkaikdndflbaaGreatDoorChecked
import GoSem.Claim
import GoSem.ClaimJoined
import GoSem.ClaimMapViews
import Derived.JoinedTies
import Derived.KernelRfl
namespace Go.Proofs.YtmbkaikdndflbaaGreatDoor
/- THE CELL 'sum', in the pinned program and in every row, IS THE sha256 OF THE DUMP (.gsa) THAT YtmbkaikdndflbaaGreatDoorProg.lean LOADS. Nothing in Lean hashes anything: it is a label: what it is worth is what the hold of that sum in a sandbox is worth. -/
noncomputable def Tryz.pinned : Pinned := { name := "ytmbkaikdndflbaagreatdoor", sum := "8c86c24e6eab842ac9cdd32df0b5f9ae851517099e78a1ca73461505b8a9071f", checked := Tryz.checked }
namespace Rows
def none {H : Type} : Left H := { results := [], args := [] }

/- WHAT THE LISTED PACKAGE-LEVEL VARIABLES READ AS WHEN THE CALL BEGINS. Each datum BY PROGRAM (the guide's laid-datum.mjs) off the statement by which the dump's own 'gosem.cut.vars' lays the variable. In a bare row this is a premise. The card (YtmbkaikdndflbaaGreatDoorCards.lean) ties it to the program's text. -/
def laid_errors_errorType {H : Type} : DataW H := .iface "internal/reflectlite.rtype" (.agg [.ptr (.lit (.string [101, 114, 114, 111, 114]))])

/-- 'tripwirelaw16.CostExprs': WHATEVER THE INPUT: true; the input reads as it did. -/
def costExprsSpec : ChangeSpec := { name := "costExprs", fn := fun _ => fun
  | [d] => { results := [.lit (.bool true)], args := [d] }
  | _ => none }
def costExprsRow : OpenClaim := { program := "ytmbkaikdndflbaagreatdoor", sum := "8c86c24e6eab842ac9cdd32df0b5f9ae851517099e78a1ca73461505b8a9071f", func := "tripwire/tripwirelaw16.CostExprs", spec := "costExprs", inPlace := ["internal/reflectlite.ValueOf", "(internal/reflectlite.Value).Type", "(internal/reflectlite.Value).IsNil", "internal/reflectlite.TypeOf", "(internal/reflectlite.Value).Elem", "(internal/reflectlite.Value).Set"], unfollowed := true, recurses := true, named := ["errors.errorType"], loops := true, apart := false, laid := [("errors.errorType", laid_errors_errorType)] }
def CostExprsSaid : Prop := costExprsRow.holds Tryz.pinned (OpenSpec.ofChange costExprsSpec)

/-- ITS FALSE NEIGHBOUR: 'it returns false'. Refute it at one input. -/
def costExprsWrong : ChangeSpec := { name := "costExprs", fn := fun _ => fun
  | [d] => { results := [.lit (.bool false)], args := [d] }
  | _ => none }
def CostExprsWrongFalsely : Prop := costExprsRow.holds Tryz.pinned (OpenSpec.ofChange costExprsWrong)

/-- 'tripwirelaw16.CostParts': WHATEVER THE INPUT: true; the input reads as it did. -/
def costPartsSpec : ChangeSpec := { name := "costParts", fn := fun _ => fun
  | [d1, d2, d3] => { results := [.lit (.bool true)], args := [d1, d2, d3] }
  | _ => none }
def costPartsRow : OpenClaim := { program := "ytmbkaikdndflbaagreatdoor", sum := "8c86c24e6eab842ac9cdd32df0b5f9ae851517099e78a1ca73461505b8a9071f", func := "tripwire/tripwirelaw16.CostParts", spec := "costParts", inPlace := ["internal/reflectlite.ValueOf", "(internal/reflectlite.Value).Type", "(internal/reflectlite.Value).IsNil", "internal/reflectlite.TypeOf", "(internal/reflectlite.Value).Elem", "(internal/reflectlite.Value).Set"], unfollowed := true, recurses := true, named := ["errors.errorType"], loops := true, apart := false, laid := [("errors.errorType", laid_errors_errorType)] }
def CostPartsSaid : Prop := costPartsRow.holds Tryz.pinned (OpenSpec.ofChange costPartsSpec)

/-- ITS FALSE NEIGHBOUR: 'it returns false'. Refute it at one input. -/
def costPartsWrong : ChangeSpec := { name := "costParts", fn := fun _ => fun
  | [d1, d2, d3] => { results := [.lit (.bool false)], args := [d1, d2, d3] }
  | _ => none }
def CostPartsWrongFalsely : Prop := costPartsRow.holds Tryz.pinned (OpenSpec.ofChange costPartsWrong)

/-- 'tripwirelaw16.CostSizes': WHATEVER THE INPUT: true; the input reads as it did. -/
def costSizesSpec : ChangeSpec := { name := "costSizes", fn := fun _ => fun
  | [d] => { results := [.lit (.bool true)], args := [d] }
  | _ => none }
def costSizesRow : OpenClaim := { program := "ytmbkaikdndflbaagreatdoor", sum := "8c86c24e6eab842ac9cdd32df0b5f9ae851517099e78a1ca73461505b8a9071f", func := "tripwire/tripwirelaw16.CostSizes", spec := "costSizes", inPlace := ["internal/reflectlite.ValueOf", "(internal/reflectlite.Value).Type", "(internal/reflectlite.Value).IsNil", "internal/reflectlite.TypeOf", "(internal/reflectlite.Value).Elem", "(internal/reflectlite.Value).Set"], unfollowed := true, recurses := true, named := ["errors.errorType"], loops := true, apart := false, laid := [("errors.errorType", laid_errors_errorType)] }
def CostSizesSaid : Prop := costSizesRow.holds Tryz.pinned (OpenSpec.ofChange costSizesSpec)

/-- ITS FALSE NEIGHBOUR: 'it returns false'. Refute it at one input. -/
def costSizesWrong : ChangeSpec := { name := "costSizes", fn := fun _ => fun
  | [d] => { results := [.lit (.bool false)], args := [d] }
  | _ => none }
def CostSizesWrongFalsely : Prop := costSizesRow.holds Tryz.pinned (OpenSpec.ofChange costSizesWrong)

/-- 'tripwirelaw16.CostStates': WHATEVER THE INPUT: true; the input reads as it did. -/
def costStatesSpec : ChangeSpec := { name := "costStates", fn := fun _ => fun
  | [d] => { results := [.lit (.bool true)], args := [d] }
  | _ => none }
def costStatesRow : OpenClaim := { program := "ytmbkaikdndflbaagreatdoor", sum := "8c86c24e6eab842ac9cdd32df0b5f9ae851517099e78a1ca73461505b8a9071f", func := "tripwire/tripwirelaw16.CostStates", spec := "costStates", inPlace := ["internal/reflectlite.ValueOf", "(internal/reflectlite.Value).Type", "(internal/reflectlite.Value).IsNil", "internal/reflectlite.TypeOf", "(internal/reflectlite.Value).Elem", "(internal/reflectlite.Value).Set"], unfollowed := true, recurses := true, named := ["errors.errorType"], loops := true, apart := false, laid := [("errors.errorType", laid_errors_errorType)] }
def CostStatesSaid : Prop := costStatesRow.holds Tryz.pinned (OpenSpec.ofChange costStatesSpec)

/-- ITS FALSE NEIGHBOUR: 'it returns false'. Refute it at one input. -/
def costStatesWrong : ChangeSpec := { name := "costStates", fn := fun _ => fun
  | [d] => { results := [.lit (.bool false)], args := [d] }
  | _ => none }
def CostStatesWrongFalsely : Prop := costStatesRow.holds Tryz.pinned (OpenSpec.ofChange costStatesWrong)

/-- 'tripwirelaw16.CostStrategies': WHATEVER THE INPUT: true; the input reads as it did. -/
def costStrategiesSpec : ChangeSpec := { name := "costStrategies", fn := fun _ => fun
  | [d] => { results := [.lit (.bool true)], args := [d] }
  | _ => none }
def costStrategiesRow : OpenClaim := { program := "ytmbkaikdndflbaagreatdoor", sum := "8c86c24e6eab842ac9cdd32df0b5f9ae851517099e78a1ca73461505b8a9071f", func := "tripwire/tripwirelaw16.CostStrategies", spec := "costStrategies", inPlace := ["internal/reflectlite.ValueOf", "(internal/reflectlite.Value).Type", "(internal/reflectlite.Value).IsNil", "internal/reflectlite.TypeOf", "(internal/reflectlite.Value).Elem", "(internal/reflectlite.Value).Set"], unfollowed := true, recurses := true, named := ["errors.errorType"], loops := true, apart := false, laid := [("errors.errorType", laid_errors_errorType)] }
def CostStrategiesSaid : Prop := costStrategiesRow.holds Tryz.pinned (OpenSpec.ofChange costStrategiesSpec)

/-- ITS FALSE NEIGHBOUR: 'it returns false'. Refute it at one input. -/
def costStrategiesWrong : ChangeSpec := { name := "costStrategies", fn := fun _ => fun
  | [d] => { results := [.lit (.bool false)], args := [d] }
  | _ => none }
def CostStrategiesWrongFalsely : Prop := costStrategiesRow.holds Tryz.pinned (OpenSpec.ofChange costStrategiesWrong)

/-- 'tripwirelaw16.CostMore': WHATEVER THE INPUT: true; the input reads as it did. -/
def costMoreSpec : ChangeSpec := { name := "costMore", fn := fun _ => fun
  | [d1, d2] => { results := [.lit (.bool true)], args := [d1, d2] }
  | _ => none }
def costMoreRow : OpenClaim := { program := "ytmbkaikdndflbaagreatdoor", sum := "8c86c24e6eab842ac9cdd32df0b5f9ae851517099e78a1ca73461505b8a9071f", func := "tripwire/tripwirelaw16.CostMore", spec := "costMore", inPlace := ["internal/reflectlite.ValueOf", "(internal/reflectlite.Value).Type", "(internal/reflectlite.Value).IsNil", "internal/reflectlite.TypeOf", "(internal/reflectlite.Value).Elem", "(internal/reflectlite.Value).Set"], unfollowed := true, recurses := true, named := ["errors.errorType"], loops := true, apart := false, laid := [("errors.errorType", laid_errors_errorType)] }
def CostMoreSaid : Prop := costMoreRow.holds Tryz.pinned (OpenSpec.ofChange costMoreSpec)

/-- ITS FALSE NEIGHBOUR: 'it returns false'. Refute it at one input. -/
def costMoreWrong : ChangeSpec := { name := "costMore", fn := fun _ => fun
  | [d1, d2] => { results := [.lit (.bool false)], args := [d1, d2] }
  | _ => none }
def CostMoreWrongFalsely : Prop := costMoreRow.holds Tryz.pinned (OpenSpec.ofChange costMoreWrong)

/- THE SECOND FORM. 'bulk': how many values and letters a reading holds, each counted each time it is reached (what is shared counts as often as it is met; a slice's spare places count too). A statement '..UptoSaid' is the law's where the arguments, and the package variables that the reading takes, are together of bulk at most 1048576: NARROWER than '..Said'. Prove '..Said' where nothing that the law and all that it calls make is longer than what came in: it says more and counts as full. Else prove '..UptoSaid'. A law counts once. -/
mutual
def uptoBulk {H : Type} : DataW H → Nat
  | .lit (.string bytes) => bytes.length + 1
  | .lit _ => 1
  | .nil => 1
  | .ptr d => uptoBulk d + 1
  | .slice elems spare => uptoBulkAll elems + uptoBulkAll spare + 1
  | .agg parts => uptoBulkAll parts + 1
  | .iface _ d => uptoBulk d + 1
  | .map entries => uptoBulkEntries entries + 1
  | .held _ => 1
def uptoBulkAll {H : Type} : List (DataW H) → Nat
  | [] => 0
  | d :: r => uptoBulk d + uptoBulkAll r
def uptoBulkEntries {H : Type} : List (Lit × DataW H) → Nat
  | [] => 0
  | x :: r => uptoBulkEntry x + uptoBulkEntries r
def uptoBulkEntry {H : Type} : Lit × DataW H → Nat
  | (.string bytes, d) => bytes.length + uptoBulk d + 1
  | (_, d) => uptoBulk d + 1
 end
def uptoSmall : (H : Type) → List (DataW H) → Bool := fun _ ds => decide (uptoBulkAll ds ≤ 1048576)
def OpenSpec.upto (s : _root_.Go.ChangeSpec) : _root_.Go.OpenSpec := { _root_.Go.OpenSpec.ofChange s with cond := some uptoSmall }

/-- 'tripwirelaw16.CostExprs', WHERE WHAT IT READS IS OF BULK AT MOST 1048576: true; the input reads as it did. -/
def costExprsUptoRow : OpenClaim := { program := "ytmbkaikdndflbaagreatdoor", sum := "8c86c24e6eab842ac9cdd32df0b5f9ae851517099e78a1ca73461505b8a9071f", func := "tripwire/tripwirelaw16.CostExprs", spec := "costExprs", inPlace := ["internal/reflectlite.ValueOf", "(internal/reflectlite.Value).Type", "(internal/reflectlite.Value).IsNil", "internal/reflectlite.TypeOf", "(internal/reflectlite.Value).Elem", "(internal/reflectlite.Value).Set"], unfollowed := true, recurses := true, named := ["errors.errorType"], loops := true, apart := false, laid := [("errors.errorType", laid_errors_errorType)], narrowed := true }
def CostExprsUptoSaid : Prop := costExprsUptoRow.holds Tryz.pinned (OpenSpec.upto costExprsSpec)

/-- 'tripwirelaw16.CostParts', WHERE WHAT IT READS IS OF BULK AT MOST 1048576: true; the input reads as it did. -/
def costPartsUptoRow : OpenClaim := { program := "ytmbkaikdndflbaagreatdoor", sum := "8c86c24e6eab842ac9cdd32df0b5f9ae851517099e78a1ca73461505b8a9071f", func := "tripwire/tripwirelaw16.CostParts", spec := "costParts", inPlace := ["internal/reflectlite.ValueOf", "(internal/reflectlite.Value).Type", "(internal/reflectlite.Value).IsNil", "internal/reflectlite.TypeOf", "(internal/reflectlite.Value).Elem", "(internal/reflectlite.Value).Set"], unfollowed := true, recurses := true, named := ["errors.errorType"], loops := true, apart := false, laid := [("errors.errorType", laid_errors_errorType)], narrowed := true }
def CostPartsUptoSaid : Prop := costPartsUptoRow.holds Tryz.pinned (OpenSpec.upto costPartsSpec)

/-- 'tripwirelaw16.CostSizes', WHERE WHAT IT READS IS OF BULK AT MOST 1048576: true; the input reads as it did. -/
def costSizesUptoRow : OpenClaim := { program := "ytmbkaikdndflbaagreatdoor", sum := "8c86c24e6eab842ac9cdd32df0b5f9ae851517099e78a1ca73461505b8a9071f", func := "tripwire/tripwirelaw16.CostSizes", spec := "costSizes", inPlace := ["internal/reflectlite.ValueOf", "(internal/reflectlite.Value).Type", "(internal/reflectlite.Value).IsNil", "internal/reflectlite.TypeOf", "(internal/reflectlite.Value).Elem", "(internal/reflectlite.Value).Set"], unfollowed := true, recurses := true, named := ["errors.errorType"], loops := true, apart := false, laid := [("errors.errorType", laid_errors_errorType)], narrowed := true }
def CostSizesUptoSaid : Prop := costSizesUptoRow.holds Tryz.pinned (OpenSpec.upto costSizesSpec)

/-- 'tripwirelaw16.CostStates', WHERE WHAT IT READS IS OF BULK AT MOST 1048576: true; the input reads as it did. -/
def costStatesUptoRow : OpenClaim := { program := "ytmbkaikdndflbaagreatdoor", sum := "8c86c24e6eab842ac9cdd32df0b5f9ae851517099e78a1ca73461505b8a9071f", func := "tripwire/tripwirelaw16.CostStates", spec := "costStates", inPlace := ["internal/reflectlite.ValueOf", "(internal/reflectlite.Value).Type", "(internal/reflectlite.Value).IsNil", "internal/reflectlite.TypeOf", "(internal/reflectlite.Value).Elem", "(internal/reflectlite.Value).Set"], unfollowed := true, recurses := true, named := ["errors.errorType"], loops := true, apart := false, laid := [("errors.errorType", laid_errors_errorType)], narrowed := true }
def CostStatesUptoSaid : Prop := costStatesUptoRow.holds Tryz.pinned (OpenSpec.upto costStatesSpec)

/-- 'tripwirelaw16.CostStrategies', WHERE WHAT IT READS IS OF BULK AT MOST 1048576: true; the input reads as it did. -/
def costStrategiesUptoRow : OpenClaim := { program := "ytmbkaikdndflbaagreatdoor", sum := "8c86c24e6eab842ac9cdd32df0b5f9ae851517099e78a1ca73461505b8a9071f", func := "tripwire/tripwirelaw16.CostStrategies", spec := "costStrategies", inPlace := ["internal/reflectlite.ValueOf", "(internal/reflectlite.Value).Type", "(internal/reflectlite.Value).IsNil", "internal/reflectlite.TypeOf", "(internal/reflectlite.Value).Elem", "(internal/reflectlite.Value).Set"], unfollowed := true, recurses := true, named := ["errors.errorType"], loops := true, apart := false, laid := [("errors.errorType", laid_errors_errorType)], narrowed := true }
def CostStrategiesUptoSaid : Prop := costStrategiesUptoRow.holds Tryz.pinned (OpenSpec.upto costStrategiesSpec)

/-- 'tripwirelaw16.CostMore', WHERE WHAT IT READS IS OF BULK AT MOST 1048576: true; the input reads as it did. -/
def costMoreUptoRow : OpenClaim := { program := "ytmbkaikdndflbaagreatdoor", sum := "8c86c24e6eab842ac9cdd32df0b5f9ae851517099e78a1ca73461505b8a9071f", func := "tripwire/tripwirelaw16.CostMore", spec := "costMore", inPlace := ["internal/reflectlite.ValueOf", "(internal/reflectlite.Value).Type", "(internal/reflectlite.Value).IsNil", "internal/reflectlite.TypeOf", "(internal/reflectlite.Value).Elem", "(internal/reflectlite.Value).Set"], unfollowed := true, recurses := true, named := ["errors.errorType"], loops := true, apart := false, laid := [("errors.errorType", laid_errors_errorType)], narrowed := true }
def CostMoreUptoSaid : Prop := costMoreUptoRow.holds Tryz.pinned (OpenSpec.upto costMoreSpec)

end Rows
end Go.Proofs.YtmbkaikdndflbaaGreatDoor
