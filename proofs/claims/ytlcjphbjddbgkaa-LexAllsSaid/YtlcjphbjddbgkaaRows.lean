/-
  No cell of these rows narrows 'for every input' (looked for: loops, veiled, ifaces, maps, wideKeys, modest, calm, conditions, laid).
  DERIVED. THE GIVEN ROWS OF THIS SEAT. 7 by the template 'for every input the law returns true; each argument reads behind the call as it read before'; 0 by the template 'total and deterministic' (their statements: YtlcjphbjddbgkaaTotals.lean).
  GIVEN WITH THE SEED: the statements are not yours to turn. If you find one false, say at which input.
  Laid BY PROGRAM, IN A SANDBOX (cutbox-rows.mjs): the forced cells as the released guide's own fill.sh prints them over the translation 9304ee881046b22d… (all of the seat's roots in one cut). By AI agents, Wed Nov 11 2026. No macro, syntax, notation, axiom, sorry.
-/
import Derived.Test.YtlcjphbjddbgkaaChecked
import GoSem.Claim
import GoSem.ClaimJoined
import GoSem.ClaimMapViews
import Derived.JoinedTies
import Derived.KernelRfl
namespace Go.Proofs.Ytlcjphbjddbgkaa
/- THE CELL 'sum', in the pinned program and in every row, IS THE sha256 OF THE DUMP (.gsa) THAT YtlcjphbjddbgkaaProg.lean LOADS. Nothing in Lean hashes anything: it is a label: what it is worth is what the hold of that sum in a sandbox is worth. -/
noncomputable def Try.pinned : Pinned := { name := "ytlcjphbjddbgkaa", sum := "9304ee881046b22d945c18a300d99026424edf042272326b86cc02a5ba9ce480", checked := Try.checked }
namespace Rows
def none {H : Type} : Left H := { results := [], args := [] }

/-- 'tripwirelaw11.LexTokens': WHATEVER THE INPUT: true; the input reads as it did. -/
def lexTokensSpec : ChangeSpec := { name := "lexTokens", fn := fun _ => fun
  | [d1, d2] => { results := [.lit (.bool true)], args := [d1, d2] }
  | _ => none }
def lexTokensRow : OpenClaim := { program := "ytlcjphbjddbgkaa", sum := "9304ee881046b22d945c18a300d99026424edf042272326b86cc02a5ba9ce480", func := "tripwire/tripwirelaw11.LexTokens", spec := "lexTokens", unfollowed := true, recurses := true, apart := false }
def LexTokensSaid : Prop := lexTokensRow.holds Try.pinned (OpenSpec.ofChange lexTokensSpec)

/-- ITS FALSE NEIGHBOUR: 'it returns false'. Refute it at one input. -/
def lexTokensWrong : ChangeSpec := { name := "lexTokens", fn := fun _ => fun
  | [d1, d2] => { results := [.lit (.bool false)], args := [d1, d2] }
  | _ => none }
def LexTokensWrongFalsely : Prop := lexTokensRow.holds Try.pinned (OpenSpec.ofChange lexTokensWrong)

/-- 'tripwirelaw11.LexNexts': WHATEVER THE INPUT: true; the input reads as it did. -/
def lexNextsSpec : ChangeSpec := { name := "lexNexts", fn := fun _ => fun
  | [d1, d2] => { results := [.lit (.bool true)], args := [d1, d2] }
  | _ => none }
def lexNextsRow : OpenClaim := { program := "ytlcjphbjddbgkaa", sum := "9304ee881046b22d945c18a300d99026424edf042272326b86cc02a5ba9ce480", func := "tripwire/tripwirelaw11.LexNexts", spec := "lexNexts", unfollowed := true, recurses := true, apart := false }
def LexNextsSaid : Prop := lexNextsRow.holds Try.pinned (OpenSpec.ofChange lexNextsSpec)

/-- ITS FALSE NEIGHBOUR: 'it returns false'. Refute it at one input. -/
def lexNextsWrong : ChangeSpec := { name := "lexNexts", fn := fun _ => fun
  | [d1, d2] => { results := [.lit (.bool false)], args := [d1, d2] }
  | _ => none }
def LexNextsWrongFalsely : Prop := lexNextsRow.holds Try.pinned (OpenSpec.ofChange lexNextsWrong)

/-- 'tripwirelaw11.LexWords': WHATEVER THE INPUT: true; the input reads as it did. -/
def lexWordsSpec : ChangeSpec := { name := "lexWords", fn := fun _ => fun
  | [d] => { results := [.lit (.bool true)], args := [d] }
  | _ => none }
def lexWordsRow : OpenClaim := { program := "ytlcjphbjddbgkaa", sum := "9304ee881046b22d945c18a300d99026424edf042272326b86cc02a5ba9ce480", func := "tripwire/tripwirelaw11.LexWords", spec := "lexWords", unfollowed := true, recurses := true, apart := false }
def LexWordsSaid : Prop := lexWordsRow.holds Try.pinned (OpenSpec.ofChange lexWordsSpec)

/-- ITS FALSE NEIGHBOUR: 'it returns false'. Refute it at one input. -/
def lexWordsWrong : ChangeSpec := { name := "lexWords", fn := fun _ => fun
  | [d] => { results := [.lit (.bool false)], args := [d] }
  | _ => none }
def LexWordsWrongFalsely : Prop := lexWordsRow.holds Try.pinned (OpenSpec.ofChange lexWordsWrong)

/-- 'tripwirelaw11.LexPieces': WHATEVER THE INPUT: true; the input reads as it did. -/
def lexPiecesSpec : ChangeSpec := { name := "lexPieces", fn := fun _ => fun
  | [d] => { results := [.lit (.bool true)], args := [d] }
  | _ => none }
def lexPiecesRow : OpenClaim := { program := "ytlcjphbjddbgkaa", sum := "9304ee881046b22d945c18a300d99026424edf042272326b86cc02a5ba9ce480", func := "tripwire/tripwirelaw11.LexPieces", spec := "lexPieces", unfollowed := true, recurses := true, apart := false }
def LexPiecesSaid : Prop := lexPiecesRow.holds Try.pinned (OpenSpec.ofChange lexPiecesSpec)

/-- ITS FALSE NEIGHBOUR: 'it returns false'. Refute it at one input. -/
def lexPiecesWrong : ChangeSpec := { name := "lexPieces", fn := fun _ => fun
  | [d] => { results := [.lit (.bool false)], args := [d] }
  | _ => none }
def LexPiecesWrongFalsely : Prop := lexPiecesRow.holds Try.pinned (OpenSpec.ofChange lexPiecesWrong)

/-- 'tripwirelaw11.LexJoined': WHATEVER THE INPUT: true; the input reads as it did. -/
def lexJoinedSpec : ChangeSpec := { name := "lexJoined", fn := fun _ => fun
  | [d1, d2] => { results := [.lit (.bool true)], args := [d1, d2] }
  | _ => none }
def lexJoinedRow : OpenClaim := { program := "ytlcjphbjddbgkaa", sum := "9304ee881046b22d945c18a300d99026424edf042272326b86cc02a5ba9ce480", func := "tripwire/tripwirelaw11.LexJoined", spec := "lexJoined", unfollowed := true, recurses := true, apart := false }
def LexJoinedSaid : Prop := lexJoinedRow.holds Try.pinned (OpenSpec.ofChange lexJoinedSpec)

/-- ITS FALSE NEIGHBOUR: 'it returns false'. Refute it at one input. -/
def lexJoinedWrong : ChangeSpec := { name := "lexJoined", fn := fun _ => fun
  | [d1, d2] => { results := [.lit (.bool false)], args := [d1, d2] }
  | _ => none }
def LexJoinedWrongFalsely : Prop := lexJoinedRow.holds Try.pinned (OpenSpec.ofChange lexJoinedWrong)

/-- 'tripwirelaw11.LexSpaced': WHATEVER THE INPUT: true; the input reads as it did. -/
def lexSpacedSpec : ChangeSpec := { name := "lexSpaced", fn := fun _ => fun
  | [d1, d2] => { results := [.lit (.bool true)], args := [d1, d2] }
  | _ => none }
def lexSpacedRow : OpenClaim := { program := "ytlcjphbjddbgkaa", sum := "9304ee881046b22d945c18a300d99026424edf042272326b86cc02a5ba9ce480", func := "tripwire/tripwirelaw11.LexSpaced", spec := "lexSpaced", unfollowed := true, recurses := true, apart := false }
def LexSpacedSaid : Prop := lexSpacedRow.holds Try.pinned (OpenSpec.ofChange lexSpacedSpec)

/-- ITS FALSE NEIGHBOUR: 'it returns false'. Refute it at one input. -/
def lexSpacedWrong : ChangeSpec := { name := "lexSpaced", fn := fun _ => fun
  | [d1, d2] => { results := [.lit (.bool false)], args := [d1, d2] }
  | _ => none }
def LexSpacedWrongFalsely : Prop := lexSpacedRow.holds Try.pinned (OpenSpec.ofChange lexSpacedWrong)

/-- 'tripwirelaw11.LexAlls': WHATEVER THE INPUT: true; the input reads as it did. -/
def lexAllsSpec : ChangeSpec := { name := "lexAlls", fn := fun _ => fun
  | [d1, d2] => { results := [.lit (.bool true)], args := [d1, d2] }
  | _ => none }
def lexAllsRow : OpenClaim := { program := "ytlcjphbjddbgkaa", sum := "9304ee881046b22d945c18a300d99026424edf042272326b86cc02a5ba9ce480", func := "tripwire/tripwirelaw11.LexAlls", spec := "lexAlls", unfollowed := true, recurses := true, apart := false }
def LexAllsSaid : Prop := lexAllsRow.holds Try.pinned (OpenSpec.ofChange lexAllsSpec)

/-- ITS FALSE NEIGHBOUR: 'it returns false'. Refute it at one input. -/
def lexAllsWrong : ChangeSpec := { name := "lexAlls", fn := fun _ => fun
  | [d1, d2] => { results := [.lit (.bool false)], args := [d1, d2] }
  | _ => none }
def LexAllsWrongFalsely : Prop := lexAllsRow.holds Try.pinned (OpenSpec.ofChange lexAllsWrong)

/- THE SECOND FORM. 'bulk': how many values and letters a reading holds, each counted each time it is reached (what is shared counts as often as it is met; a slice's spare places count too). A statement '..UptoSaid' is the law's where the arguments, and the package variables that the reading takes, are together of bulk at most 1048576: NARROWER than '..Said'. Prove '..Said' where nothing that the law and all that it calls make is longer than what came in: it says more and counts as full. Else prove '..UptoSaid'. A law counts once. -/
mutual
def uptoBulk {H : Type} : DataW H → Nat
  | .lit (.string bytes) => bytes.length + 1
  | .lit _ => 1
  | .nil => 1
  | .ptr d => uptoBulk d + 1
  | .slice elems spare => uptoBulkAll elems + uptoBulkAll spare + 1
  | .agg parts => uptoBulkAll parts + 1
  | .iface _ d => uptoBulk d + 1
  | .map entries => uptoBulkEntries entries + 1
  | .held _ => 1
def uptoBulkAll {H : Type} : List (DataW H) → Nat
  | [] => 0
  | d :: r => uptoBulk d + uptoBulkAll r
def uptoBulkEntries {H : Type} : List (Lit × DataW H) → Nat
  | [] => 0
  | x :: r => uptoBulkEntry x + uptoBulkEntries r
def uptoBulkEntry {H : Type} : Lit × DataW H → Nat
  | (.string bytes, d) => bytes.length + uptoBulk d + 1
  | (_, d) => uptoBulk d + 1
 end
def uptoSmall : (H : Type) → List (DataW H) → Bool := fun _ ds => decide (uptoBulkAll ds ≤ 1048576)
def OpenSpec.upto (s : _root_.Go.ChangeSpec) : _root_.Go.OpenSpec := { _root_.Go.OpenSpec.ofChange s with cond := some uptoSmall }

/-- 'tripwirelaw11.LexTokens', WHERE WHAT IT READS IS OF BULK AT MOST 1048576: true; the input reads as it did. -/
def lexTokensUptoRow : OpenClaim := { program := "ytlcjphbjddbgkaa", sum := "9304ee881046b22d945c18a300d99026424edf042272326b86cc02a5ba9ce480", func := "tripwire/tripwirelaw11.LexTokens", spec := "lexTokens", unfollowed := true, recurses := true, apart := false, narrowed := true }
def LexTokensUptoSaid : Prop := lexTokensUptoRow.holds Try.pinned (OpenSpec.upto lexTokensSpec)

/-- 'tripwirelaw11.LexNexts', WHERE WHAT IT READS IS OF BULK AT MOST 1048576: true; the input reads as it did. -/
def lexNextsUptoRow : OpenClaim := { program := "ytlcjphbjddbgkaa", sum := "9304ee881046b22d945c18a300d99026424edf042272326b86cc02a5ba9ce480", func := "tripwire/tripwirelaw11.LexNexts", spec := "lexNexts", unfollowed := true, recurses := true, apart := false, narrowed := true }
def LexNextsUptoSaid : Prop := lexNextsUptoRow.holds Try.pinned (OpenSpec.upto lexNextsSpec)

/-- 'tripwirelaw11.LexWords', WHERE WHAT IT READS IS OF BULK AT MOST 1048576: true; the input reads as it did. -/
def lexWordsUptoRow : OpenClaim := { program := "ytlcjphbjddbgkaa", sum := "9304ee881046b22d945c18a300d99026424edf042272326b86cc02a5ba9ce480", func := "tripwire/tripwirelaw11.LexWords", spec := "lexWords", unfollowed := true, recurses := true, apart := false, narrowed := true }
def LexWordsUptoSaid : Prop := lexWordsUptoRow.holds Try.pinned (OpenSpec.upto lexWordsSpec)

/-- 'tripwirelaw11.LexPieces', WHERE WHAT IT READS IS OF BULK AT MOST 1048576: true; the input reads as it did. -/
def lexPiecesUptoRow : OpenClaim := { program := "ytlcjphbjddbgkaa", sum := "9304ee881046b22d945c18a300d99026424edf042272326b86cc02a5ba9ce480", func := "tripwire/tripwirelaw11.LexPieces", spec := "lexPieces", unfollowed := true, recurses := true, apart := false, narrowed := true }
def LexPiecesUptoSaid : Prop := lexPiecesUptoRow.holds Try.pinned (OpenSpec.upto lexPiecesSpec)

/-- 'tripwirelaw11.LexJoined', WHERE WHAT IT READS IS OF BULK AT MOST 1048576: true; the input reads as it did. -/
def lexJoinedUptoRow : OpenClaim := { program := "ytlcjphbjddbgkaa", sum := "9304ee881046b22d945c18a300d99026424edf042272326b86cc02a5ba9ce480", func := "tripwire/tripwirelaw11.LexJoined", spec := "lexJoined", unfollowed := true, recurses := true, apart := false, narrowed := true }
def LexJoinedUptoSaid : Prop := lexJoinedUptoRow.holds Try.pinned (OpenSpec.upto lexJoinedSpec)

/-- 'tripwirelaw11.LexSpaced', WHERE WHAT IT READS IS OF BULK AT MOST 1048576: true; the input reads as it did. -/
def lexSpacedUptoRow : OpenClaim := { program := "ytlcjphbjddbgkaa", sum := "9304ee881046b22d945c18a300d99026424edf042272326b86cc02a5ba9ce480", func := "tripwire/tripwirelaw11.LexSpaced", spec := "lexSpaced", unfollowed := true, recurses := true, apart := false, narrowed := true }
def LexSpacedUptoSaid : Prop := lexSpacedUptoRow.holds Try.pinned (OpenSpec.upto lexSpacedSpec)

/-- 'tripwirelaw11.LexAlls', WHERE WHAT IT READS IS OF BULK AT MOST 1048576: true; the input reads as it did. -/
def lexAllsUptoRow : OpenClaim := { program := "ytlcjphbjddbgkaa", sum := "9304ee881046b22d945c18a300d99026424edf042272326b86cc02a5ba9ce480", func := "tripwire/tripwirelaw11.LexAlls", spec := "lexAlls", unfollowed := true, recurses := true, apart := false, narrowed := true }
def LexAllsUptoSaid : Prop := lexAllsUptoRow.holds Try.pinned (OpenSpec.upto lexAllsSpec)

end Rows
end Go.Proofs.Ytlcjphbjddbgkaa
