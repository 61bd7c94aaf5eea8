/-
  NARROWER THAN 'FOR EVERY INPUT', by the rows' own cells (each row's printed sentence says how): TreeExprs: loops · TreeReads: loops · TreeAlls: loops · TreeSizes: loops · TreeTurned: loops.
  DERIVED. THE GIVEN ROWS OF THIS SEAT. 5 by the template 'for every input the law returns true; each argument reads behind the call as it read before'; 0 by the template 'total and deterministic' (their statements: YtnomldjkblednaaTotals.lean).
  GIVEN WITH THE SEED: the statements are not yours to turn. If you find one false, say at which input.
  Laid BY PROGRAM, IN A SANDBOX (cutbox-rows.mjs): the forced cells as the released guide's own fill.sh prints them over the translation 6e69f421947b1b5f… (all of the seat's roots in one cut). By AI agents, Wed Nov 11 2026. No macro, syntax, notation, axiom, sorry.
-/
import Derived.Test.YtnomldjkblednaaChecked
import GoSem.Claim
import GoSem.ClaimJoined
import GoSem.ClaimMapViews
import Derived.JoinedTies
import Derived.KernelRfl
namespace Go.Proofs.Ytnomldjkblednaa
/- THE CELL 'sum', in the pinned program and in every row, IS THE sha256 OF THE DUMP (.gsa) THAT YtnomldjkblednaaProg.lean LOADS. Nothing in Lean hashes anything: it is a label: what it is worth is what the hold of that sum in a sandbox is worth. -/
noncomputable def Try.pinned : Pinned := { name := "ytnomldjkblednaa", sum := "6e69f421947b1b5fbe3e85cf5df11e0753556bd1c39647ed28b1dc301d3d60db", checked := Try.checked }
namespace Rows
def none {H : Type} : Left H := { results := [], args := [] }

/-- 'tripwirelaw12.TreeExprs': WHATEVER THE INPUT: true; the input reads as it did. -/
def treeExprsSpec : ChangeSpec := { name := "treeExprs", fn := fun _ => fun
  | [d1, d2] => { results := [.lit (.bool true)], args := [d1, d2] }
  | _ => none }
def treeExprsRow : OpenClaim := { program := "ytnomldjkblednaa", sum := "6e69f421947b1b5fbe3e85cf5df11e0753556bd1c39647ed28b1dc301d3d60db", func := "tripwire/tripwirelaw12.TreeExprs", spec := "treeExprs", unfollowed := true, recurses := true, loops := true, apart := false }
def TreeExprsSaid : Prop := treeExprsRow.holds Try.pinned (OpenSpec.ofChange treeExprsSpec)

/-- ITS FALSE NEIGHBOUR: 'it returns false'. Refute it at one input. -/
def treeExprsWrong : ChangeSpec := { name := "treeExprs", fn := fun _ => fun
  | [d1, d2] => { results := [.lit (.bool false)], args := [d1, d2] }
  | _ => none }
def TreeExprsWrongFalsely : Prop := treeExprsRow.holds Try.pinned (OpenSpec.ofChange treeExprsWrong)

/-- 'tripwirelaw12.TreeReads': WHATEVER THE INPUT: true; the input reads as it did. -/
def treeReadsSpec : ChangeSpec := { name := "treeReads", fn := fun _ => fun
  | [d] => { results := [.lit (.bool true)], args := [d] }
  | _ => none }
def treeReadsRow : OpenClaim := { program := "ytnomldjkblednaa", sum := "6e69f421947b1b5fbe3e85cf5df11e0753556bd1c39647ed28b1dc301d3d60db", func := "tripwire/tripwirelaw12.TreeReads", spec := "treeReads", unfollowed := true, recurses := true, loops := true, apart := false }
def TreeReadsSaid : Prop := treeReadsRow.holds Try.pinned (OpenSpec.ofChange treeReadsSpec)

/-- ITS FALSE NEIGHBOUR: 'it returns false'. Refute it at one input. -/
def treeReadsWrong : ChangeSpec := { name := "treeReads", fn := fun _ => fun
  | [d] => { results := [.lit (.bool false)], args := [d] }
  | _ => none }
def TreeReadsWrongFalsely : Prop := treeReadsRow.holds Try.pinned (OpenSpec.ofChange treeReadsWrong)

/-- 'tripwirelaw12.TreeAlls': WHATEVER THE INPUT: true; the input reads as it did. -/
def treeAllsSpec : ChangeSpec := { name := "treeAlls", fn := fun _ => fun
  | [d1, d2] => { results := [.lit (.bool true)], args := [d1, d2] }
  | _ => none }
def treeAllsRow : OpenClaim := { program := "ytnomldjkblednaa", sum := "6e69f421947b1b5fbe3e85cf5df11e0753556bd1c39647ed28b1dc301d3d60db", func := "tripwire/tripwirelaw12.TreeAlls", spec := "treeAlls", unfollowed := true, recurses := true, loops := true, apart := false }
def TreeAllsSaid : Prop := treeAllsRow.holds Try.pinned (OpenSpec.ofChange treeAllsSpec)

/-- ITS FALSE NEIGHBOUR: 'it returns false'. Refute it at one input. -/
def treeAllsWrong : ChangeSpec := { name := "treeAlls", fn := fun _ => fun
  | [d1, d2] => { results := [.lit (.bool false)], args := [d1, d2] }
  | _ => none }
def TreeAllsWrongFalsely : Prop := treeAllsRow.holds Try.pinned (OpenSpec.ofChange treeAllsWrong)

/-- 'tripwirelaw12.TreeSizes': WHATEVER THE INPUT: true; the input reads as it did. -/
def treeSizesSpec : ChangeSpec := { name := "treeSizes", fn := fun _ => fun
  | [d] => { results := [.lit (.bool true)], args := [d] }
  | _ => none }
def treeSizesRow : OpenClaim := { program := "ytnomldjkblednaa", sum := "6e69f421947b1b5fbe3e85cf5df11e0753556bd1c39647ed28b1dc301d3d60db", func := "tripwire/tripwirelaw12.TreeSizes", spec := "treeSizes", unfollowed := true, recurses := true, loops := true, apart := false }
def TreeSizesSaid : Prop := treeSizesRow.holds Try.pinned (OpenSpec.ofChange treeSizesSpec)

/-- ITS FALSE NEIGHBOUR: 'it returns false'. Refute it at one input. -/
def treeSizesWrong : ChangeSpec := { name := "treeSizes", fn := fun _ => fun
  | [d] => { results := [.lit (.bool false)], args := [d] }
  | _ => none }
def TreeSizesWrongFalsely : Prop := treeSizesRow.holds Try.pinned (OpenSpec.ofChange treeSizesWrong)

/-- 'tripwirelaw12.TreeTurned': WHATEVER THE INPUT: true; the input reads as it did. -/
def treeTurnedSpec : ChangeSpec := { name := "treeTurned", fn := fun _ => fun
  | [d1, d2, d3] => { results := [.lit (.bool true)], args := [d1, d2, d3] }
  | _ => none }
def treeTurnedRow : OpenClaim := { program := "ytnomldjkblednaa", sum := "6e69f421947b1b5fbe3e85cf5df11e0753556bd1c39647ed28b1dc301d3d60db", func := "tripwire/tripwirelaw12.TreeTurned", spec := "treeTurned", unfollowed := true, recurses := true, loops := true, apart := false }
def TreeTurnedSaid : Prop := treeTurnedRow.holds Try.pinned (OpenSpec.ofChange treeTurnedSpec)

/-- ITS FALSE NEIGHBOUR: 'it returns false'. Refute it at one input. -/
def treeTurnedWrong : ChangeSpec := { name := "treeTurned", fn := fun _ => fun
  | [d1, d2, d3] => { results := [.lit (.bool false)], args := [d1, d2, d3] }
  | _ => none }
def TreeTurnedWrongFalsely : Prop := treeTurnedRow.holds Try.pinned (OpenSpec.ofChange treeTurnedWrong)

/- THE SECOND FORM. 'bulk': how many values and letters a reading holds, each counted each time it is reached (what is shared counts as often as it is met; a slice's spare places count too). A statement '..UptoSaid' is the law's where the arguments, and the package variables that the reading takes, are together of bulk at most 1048576: NARROWER than '..Said'. Prove '..Said' where nothing that the law and all that it calls make is longer than what came in: it says more and counts as full. Else prove '..UptoSaid'. A law counts once. -/
mutual
def uptoBulk {H : Type} : DataW H → Nat
  | .lit (.string bytes) => bytes.length + 1
  | .lit _ => 1
  | .nil => 1
  | .ptr d => uptoBulk d + 1
  | .slice elems spare => uptoBulkAll elems + uptoBulkAll spare + 1
  | .agg parts => uptoBulkAll parts + 1
  | .iface _ d => uptoBulk d + 1
  | .map entries => uptoBulkEntries entries + 1
  | .held _ => 1
def uptoBulkAll {H : Type} : List (DataW H) → Nat
  | [] => 0
  | d :: r => uptoBulk d + uptoBulkAll r
def uptoBulkEntries {H : Type} : List (Lit × DataW H) → Nat
  | [] => 0
  | x :: r => uptoBulkEntry x + uptoBulkEntries r
def uptoBulkEntry {H : Type} : Lit × DataW H → Nat
  | (.string bytes, d) => bytes.length + uptoBulk d + 1
  | (_, d) => uptoBulk d + 1
 end
def uptoSmall : (H : Type) → List (DataW H) → Bool := fun _ ds => decide (uptoBulkAll ds ≤ 1048576)
def OpenSpec.upto (s : _root_.Go.ChangeSpec) : _root_.Go.OpenSpec := { _root_.Go.OpenSpec.ofChange s with cond := some uptoSmall }

/-- 'tripwirelaw12.TreeExprs', WHERE WHAT IT READS IS OF BULK AT MOST 1048576: true; the input reads as it did. -/
def treeExprsUptoRow : OpenClaim := { program := "ytnomldjkblednaa", sum := "6e69f421947b1b5fbe3e85cf5df11e0753556bd1c39647ed28b1dc301d3d60db", func := "tripwire/tripwirelaw12.TreeExprs", spec := "treeExprs", unfollowed := true, recurses := true, loops := true, apart := false, narrowed := true }
def TreeExprsUptoSaid : Prop := treeExprsUptoRow.holds Try.pinned (OpenSpec.upto treeExprsSpec)

/-- 'tripwirelaw12.TreeReads', WHERE WHAT IT READS IS OF BULK AT MOST 1048576: true; the input reads as it did. -/
def treeReadsUptoRow : OpenClaim := { program := "ytnomldjkblednaa", sum := "6e69f421947b1b5fbe3e85cf5df11e0753556bd1c39647ed28b1dc301d3d60db", func := "tripwire/tripwirelaw12.TreeReads", spec := "treeReads", unfollowed := true, recurses := true, loops := true, apart := false, narrowed := true }
def TreeReadsUptoSaid : Prop := treeReadsUptoRow.holds Try.pinned (OpenSpec.upto treeReadsSpec)

/-- 'tripwirelaw12.TreeAlls', WHERE WHAT IT READS IS OF BULK AT MOST 1048576: true; the input reads as it did. -/
def treeAllsUptoRow : OpenClaim := { program := "ytnomldjkblednaa", sum := "6e69f421947b1b5fbe3e85cf5df11e0753556bd1c39647ed28b1dc301d3d60db", func := "tripwire/tripwirelaw12.TreeAlls", spec := "treeAlls", unfollowed := true, recurses := true, loops := true, apart := false, narrowed := true }
def TreeAllsUptoSaid : Prop := treeAllsUptoRow.holds Try.pinned (OpenSpec.upto treeAllsSpec)

/-- 'tripwirelaw12.TreeSizes', WHERE WHAT IT READS IS OF BULK AT MOST 1048576: true; the input reads as it did. -/
def treeSizesUptoRow : OpenClaim := { program := "ytnomldjkblednaa", sum := "6e69f421947b1b5fbe3e85cf5df11e0753556bd1c39647ed28b1dc301d3d60db", func := "tripwire/tripwirelaw12.TreeSizes", spec := "treeSizes", unfollowed := true, recurses := true, loops := true, apart := false, narrowed := true }
def TreeSizesUptoSaid : Prop := treeSizesUptoRow.holds Try.pinned (OpenSpec.upto treeSizesSpec)

/-- 'tripwirelaw12.TreeTurned', WHERE WHAT IT READS IS OF BULK AT MOST 1048576: true; the input reads as it did. -/
def treeTurnedUptoRow : OpenClaim := { program := "ytnomldjkblednaa", sum := "6e69f421947b1b5fbe3e85cf5df11e0753556bd1c39647ed28b1dc301d3d60db", func := "tripwire/tripwirelaw12.TreeTurned", spec := "treeTurned", unfollowed := true, recurses := true, loops := true, apart := false, narrowed := true }
def TreeTurnedUptoSaid : Prop := treeTurnedUptoRow.holds Try.pinned (OpenSpec.upto treeTurnedSpec)

end Rows
end Go.Proofs.Ytnomldjkblednaa
