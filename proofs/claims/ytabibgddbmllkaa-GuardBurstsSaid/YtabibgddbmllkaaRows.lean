/-
  No cell of these rows narrows 'for every input' (looked for: loops, veiled, ifaces, maps, wideKeys, modest, calm, conditions, laid).
  DERIVED. THE GIVEN ROWS OF THIS SEAT. 6 by the template 'for every input the law returns true; each argument reads behind the call as it read before'; 0 by the template 'total and deterministic' (their statements: YtabibgddbmllkaaTotals.lean).
  GIVEN WITH THE SEED: the statements are not yours to turn. If you find one false, say at which input.
  Laid BY PROGRAM, IN A SANDBOX (cutbox-rows.mjs): the forced cells as the released guide's own fill.sh prints them over the translation eaa1e8a89761edce… (all of the seat's roots in one cut). By AI agents, Wed Nov 11 2026. No macro, syntax, notation, axiom, sorry.
-/
import Derived.Test.YtabibgddbmllkaaChecked
import GoSem.Claim
import GoSem.ClaimJoined
import GoSem.ClaimMapViews
import Derived.JoinedTies
import Derived.KernelRfl
namespace Go.Proofs.Ytabibgddbmllkaa
/- THE CELL 'sum', in the pinned program and in every row, IS THE sha256 OF THE DUMP (.gsa) THAT YtabibgddbmllkaaProg.lean LOADS. Nothing in Lean hashes anything: it is a label: what it is worth is what the hold of that sum in a sandbox is worth. -/
noncomputable def Try.pinned : Pinned := { name := "ytabibgddbmllkaa", sum := "eaa1e8a89761edce11ef6632e2fdf352ea863e8147c135a217ba54c6ed2dfa78", checked := Try.checked }
namespace Rows
def none {H : Type} : Left H := { results := [], args := [] }

/-- 'satchellaw04.GuardSums': WHATEVER THE INPUT: true; the input reads as it did. -/
def guardSumsSpec : ChangeSpec := { name := "guardSums", fn := fun _ => fun
  | [d1, d2] => { results := [.lit (.bool true)], args := [d1, d2] }
  | _ => none }
def guardSumsRow : OpenClaim := { program := "ytabibgddbmllkaa", sum := "eaa1e8a89761edce11ef6632e2fdf352ea863e8147c135a217ba54c6ed2dfa78", func := "satchel/satchellaw04.GuardSums", spec := "guardSums", apart := false }
def GuardSumsSaid : Prop := guardSumsRow.holds Try.pinned (OpenSpec.ofChange guardSumsSpec)

/-- ITS FALSE NEIGHBOUR: 'it returns false'. Refute it at one input. -/
def guardSumsWrong : ChangeSpec := { name := "guardSums", fn := fun _ => fun
  | [d1, d2] => { results := [.lit (.bool false)], args := [d1, d2] }
  | _ => none }
def GuardSumsWrongFalsely : Prop := guardSumsRow.holds Try.pinned (OpenSpec.ofChange guardSumsWrong)

/-- 'satchellaw04.GuardChecks': WHATEVER THE INPUT: true; the input reads as it did. -/
def guardChecksSpec : ChangeSpec := { name := "guardChecks", fn := fun _ => fun
  | [d] => { results := [.lit (.bool true)], args := [d] }
  | _ => none }
def guardChecksRow : OpenClaim := { program := "ytabibgddbmllkaa", sum := "eaa1e8a89761edce11ef6632e2fdf352ea863e8147c135a217ba54c6ed2dfa78", func := "satchel/satchellaw04.GuardChecks", spec := "guardChecks", apart := false }
def GuardChecksSaid : Prop := guardChecksRow.holds Try.pinned (OpenSpec.ofChange guardChecksSpec)

/-- ITS FALSE NEIGHBOUR: 'it returns false'. Refute it at one input. -/
def guardChecksWrong : ChangeSpec := { name := "guardChecks", fn := fun _ => fun
  | [d] => { results := [.lit (.bool false)], args := [d] }
  | _ => none }
def GuardChecksWrongFalsely : Prop := guardChecksRow.holds Try.pinned (OpenSpec.ofChange guardChecksWrong)

/-- 'satchellaw04.GuardKnown': WHATEVER THE INPUT: true; the input reads as it did. -/
def guardKnownSpec : ChangeSpec := { name := "guardKnown", fn := fun _ => fun
  | [] => { results := [.lit (.bool true)], args := [] }
  | _ => none }
def guardKnownRow : OpenClaim := { program := "ytabibgddbmllkaa", sum := "eaa1e8a89761edce11ef6632e2fdf352ea863e8147c135a217ba54c6ed2dfa78", func := "satchel/satchellaw04.GuardKnown", spec := "guardKnown", apart := false }
def GuardKnownSaid : Prop := guardKnownRow.holds Try.pinned (OpenSpec.ofChange guardKnownSpec)

/-- ITS FALSE NEIGHBOUR: 'it returns false'. Refute it at one input. -/
def guardKnownWrong : ChangeSpec := { name := "guardKnown", fn := fun _ => fun
  | [] => { results := [.lit (.bool false)], args := [] }
  | _ => none }
def GuardKnownWrongFalsely : Prop := guardKnownRow.holds Try.pinned (OpenSpec.ofChange guardKnownWrong)

/-- 'satchellaw04.GuardBursts': WHATEVER THE INPUT: true; the input reads as it did. -/
def guardBurstsSpec : ChangeSpec := { name := "guardBursts", fn := fun _ => fun
  | [d1, d2, d3] => { results := [.lit (.bool true)], args := [d1, d2, d3] }
  | _ => none }
def guardBurstsRow : OpenClaim := { program := "ytabibgddbmllkaa", sum := "eaa1e8a89761edce11ef6632e2fdf352ea863e8147c135a217ba54c6ed2dfa78", func := "satchel/satchellaw04.GuardBursts", spec := "guardBursts", apart := false }
def GuardBurstsSaid : Prop := guardBurstsRow.holds Try.pinned (OpenSpec.ofChange guardBurstsSpec)

/-- ITS FALSE NEIGHBOUR: 'it returns false'. Refute it at one input. -/
def guardBurstsWrong : ChangeSpec := { name := "guardBursts", fn := fun _ => fun
  | [d1, d2, d3] => { results := [.lit (.bool false)], args := [d1, d2, d3] }
  | _ => none }
def GuardBurstsWrongFalsely : Prop := guardBurstsRow.holds Try.pinned (OpenSpec.ofChange guardBurstsWrong)

/-- 'satchellaw04.GuardPieces': WHATEVER THE INPUT: true; the input reads as it did. -/
def guardPiecesSpec : ChangeSpec := { name := "guardPieces", fn := fun _ => fun
  | [d1, d2, d3] => { results := [.lit (.bool true)], args := [d1, d2, d3] }
  | _ => none }
def guardPiecesRow : OpenClaim := { program := "ytabibgddbmllkaa", sum := "eaa1e8a89761edce11ef6632e2fdf352ea863e8147c135a217ba54c6ed2dfa78", func := "satchel/satchellaw04.GuardPieces", spec := "guardPieces", apart := false }
def GuardPiecesSaid : Prop := guardPiecesRow.holds Try.pinned (OpenSpec.ofChange guardPiecesSpec)

/-- ITS FALSE NEIGHBOUR: 'it returns false'. Refute it at one input. -/
def guardPiecesWrong : ChangeSpec := { name := "guardPieces", fn := fun _ => fun
  | [d1, d2, d3] => { results := [.lit (.bool false)], args := [d1, d2, d3] }
  | _ => none }
def GuardPiecesWrongFalsely : Prop := guardPiecesRow.holds Try.pinned (OpenSpec.ofChange guardPiecesWrong)

/-- 'satchellaw04.GuardLong': WHATEVER THE INPUT: true; the input reads as it did. -/
def guardLongSpec : ChangeSpec := { name := "guardLong", fn := fun _ => fun
  | [d1, d2, d3] => { results := [.lit (.bool true)], args := [d1, d2, d3] }
  | _ => none }
def guardLongRow : OpenClaim := { program := "ytabibgddbmllkaa", sum := "eaa1e8a89761edce11ef6632e2fdf352ea863e8147c135a217ba54c6ed2dfa78", func := "satchel/satchellaw04.GuardLong", spec := "guardLong", apart := false }
def GuardLongSaid : Prop := guardLongRow.holds Try.pinned (OpenSpec.ofChange guardLongSpec)

/-- ITS FALSE NEIGHBOUR: 'it returns false'. Refute it at one input. -/
def guardLongWrong : ChangeSpec := { name := "guardLong", fn := fun _ => fun
  | [d1, d2, d3] => { results := [.lit (.bool false)], args := [d1, d2, d3] }
  | _ => none }
def GuardLongWrongFalsely : Prop := guardLongRow.holds Try.pinned (OpenSpec.ofChange guardLongWrong)

/- THE SECOND FORM. 'bulk': how many values and letters a reading holds, each counted each time it is reached (what is shared counts as often as it is met; a slice's spare places count too). A statement '..UptoSaid' is the law's where the arguments, and the package variables that the reading takes, are together of bulk at most 1048576: NARROWER than '..Said'. Prove '..Said' where nothing that the law and all that it calls make is longer than what came in: it says more and counts as full. Else prove '..UptoSaid'. A law counts once. -/
mutual
def uptoBulk {H : Type} : DataW H → Nat
  | .lit (.string bytes) => bytes.length + 1
  | .lit _ => 1
  | .nil => 1
  | .ptr d => uptoBulk d + 1
  | .slice elems spare => uptoBulkAll elems + uptoBulkAll spare + 1
  | .agg parts => uptoBulkAll parts + 1
  | .iface _ d => uptoBulk d + 1
  | .map entries => uptoBulkEntries entries + 1
  | .held _ => 1
def uptoBulkAll {H : Type} : List (DataW H) → Nat
  | [] => 0
  | d :: r => uptoBulk d + uptoBulkAll r
def uptoBulkEntries {H : Type} : List (Lit × DataW H) → Nat
  | [] => 0
  | x :: r => uptoBulkEntry x + uptoBulkEntries r
def uptoBulkEntry {H : Type} : Lit × DataW H → Nat
  | (.string bytes, d) => bytes.length + uptoBulk d + 1
  | (_, d) => uptoBulk d + 1
 end
def uptoSmall : (H : Type) → List (DataW H) → Bool := fun _ ds => decide (uptoBulkAll ds ≤ 1048576)
def OpenSpec.upto (s : _root_.Go.ChangeSpec) : _root_.Go.OpenSpec := { _root_.Go.OpenSpec.ofChange s with cond := some uptoSmall }

/-- 'satchellaw04.GuardSums', WHERE WHAT IT READS IS OF BULK AT MOST 1048576: true; the input reads as it did. -/
def guardSumsUptoRow : OpenClaim := { program := "ytabibgddbmllkaa", sum := "eaa1e8a89761edce11ef6632e2fdf352ea863e8147c135a217ba54c6ed2dfa78", func := "satchel/satchellaw04.GuardSums", spec := "guardSums", apart := false, narrowed := true }
def GuardSumsUptoSaid : Prop := guardSumsUptoRow.holds Try.pinned (OpenSpec.upto guardSumsSpec)

/-- 'satchellaw04.GuardChecks', WHERE WHAT IT READS IS OF BULK AT MOST 1048576: true; the input reads as it did. -/
def guardChecksUptoRow : OpenClaim := { program := "ytabibgddbmllkaa", sum := "eaa1e8a89761edce11ef6632e2fdf352ea863e8147c135a217ba54c6ed2dfa78", func := "satchel/satchellaw04.GuardChecks", spec := "guardChecks", apart := false, narrowed := true }
def GuardChecksUptoSaid : Prop := guardChecksUptoRow.holds Try.pinned (OpenSpec.upto guardChecksSpec)

/-- 'satchellaw04.GuardKnown', WHERE WHAT IT READS IS OF BULK AT MOST 1048576: true; the input reads as it did. -/
def guardKnownUptoRow : OpenClaim := { program := "ytabibgddbmllkaa", sum := "eaa1e8a89761edce11ef6632e2fdf352ea863e8147c135a217ba54c6ed2dfa78", func := "satchel/satchellaw04.GuardKnown", spec := "guardKnown", apart := false, narrowed := true }
def GuardKnownUptoSaid : Prop := guardKnownUptoRow.holds Try.pinned (OpenSpec.upto guardKnownSpec)

/-- 'satchellaw04.GuardBursts', WHERE WHAT IT READS IS OF BULK AT MOST 1048576: true; the input reads as it did. -/
def guardBurstsUptoRow : OpenClaim := { program := "ytabibgddbmllkaa", sum := "eaa1e8a89761edce11ef6632e2fdf352ea863e8147c135a217ba54c6ed2dfa78", func := "satchel/satchellaw04.GuardBursts", spec := "guardBursts", apart := false, narrowed := true }
def GuardBurstsUptoSaid : Prop := guardBurstsUptoRow.holds Try.pinned (OpenSpec.upto guardBurstsSpec)

/-- 'satchellaw04.GuardPieces', WHERE WHAT IT READS IS OF BULK AT MOST 1048576: true; the input reads as it did. -/
def guardPiecesUptoRow : OpenClaim := { program := "ytabibgddbmllkaa", sum := "eaa1e8a89761edce11ef6632e2fdf352ea863e8147c135a217ba54c6ed2dfa78", func := "satchel/satchellaw04.GuardPieces", spec := "guardPieces", apart := false, narrowed := true }
def GuardPiecesUptoSaid : Prop := guardPiecesUptoRow.holds Try.pinned (OpenSpec.upto guardPiecesSpec)

/-- 'satchellaw04.GuardLong', WHERE WHAT IT READS IS OF BULK AT MOST 1048576: true; the input reads as it did. -/
def guardLongUptoRow : OpenClaim := { program := "ytabibgddbmllkaa", sum := "eaa1e8a89761edce11ef6632e2fdf352ea863e8147c135a217ba54c6ed2dfa78", func := "satchel/satchellaw04.GuardLong", spec := "guardLong", apart := false, narrowed := true }
def GuardLongUptoSaid : Prop := guardLongUptoRow.holds Try.pinned (OpenSpec.upto guardLongSpec)

end Rows
end Go.Proofs.Ytabibgddbmllkaa
