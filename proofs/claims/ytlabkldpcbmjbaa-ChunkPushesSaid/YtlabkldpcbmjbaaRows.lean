/-
  No cell of these rows narrows 'for every input' (looked for: loops, veiled, ifaces, maps, wideKeys, modest, calm, conditions, laid).
  DERIVED. THE GIVEN ROWS OF THIS SEAT. 8 by the template 'for every input the law returns true; each argument reads behind the call as it read before'; 0 by the template 'total and deterministic' (their statements: YtlabkldpcbmjbaaTotals.lean).
  GIVEN WITH THE SEED: the statements are not yours to turn. If you find one false, say at which input.
  Laid BY PROGRAM, IN A SANDBOX (cutbox-rows.mjs): the forced cells as the released guide's own fill.sh prints them over the translation 99ca4d55f6ec5de7… (all of the seat's roots in one cut). By AI agents, Wed Nov 11 2026. No macro, syntax, notation, axiom, sorry.
-/
import Derived.Test.YtlabkldpcbmjbaaChecked
import GoSem.Claim
import GoSem.ClaimJoined
import GoSem.ClaimMapViews
import Derived.JoinedTies
import Derived.KernelRfl
namespace Go.Proofs.Ytlabkldpcbmjbaa
/- THE CELL 'sum', in the pinned program and in every row, IS THE sha256 OF THE DUMP (.gsa) THAT YtlabkldpcbmjbaaProg.lean LOADS. Nothing in Lean hashes anything: it is a label: what it is worth is what the hold of that sum in a sandbox is worth. -/
noncomputable def Try.pinned : Pinned := { name := "ytlabkldpcbmjbaa", sum := "99ca4d55f6ec5de7ad0a734b2f9edbd2bd73468c68edca235492ed91bfeca73f", checked := Try.checked }
namespace Rows
def none {H : Type} : Left H := { results := [], args := [] }

/-- 'satchellaw06.ChunkCuts': WHATEVER THE INPUT: true; the input reads as it did. -/
def chunkCutsSpec : ChangeSpec := { name := "chunkCuts", fn := fun _ => fun
  | [d] => { results := [.lit (.bool true)], args := [d] }
  | _ => none }
def chunkCutsRow : OpenClaim := { program := "ytlabkldpcbmjbaa", sum := "99ca4d55f6ec5de7ad0a734b2f9edbd2bd73468c68edca235492ed91bfeca73f", func := "satchel/satchellaw06.ChunkCuts", spec := "chunkCuts", unfollowed := true, recurses := true, apart := false }
def ChunkCutsSaid : Prop := chunkCutsRow.holds Try.pinned (OpenSpec.ofChange chunkCutsSpec)

/-- ITS FALSE NEIGHBOUR: 'it returns false'. Refute it at one input. -/
def chunkCutsWrong : ChangeSpec := { name := "chunkCuts", fn := fun _ => fun
  | [d] => { results := [.lit (.bool false)], args := [d] }
  | _ => none }
def ChunkCutsWrongFalsely : Prop := chunkCutsRow.holds Try.pinned (OpenSpec.ofChange chunkCutsWrong)

/-- 'satchellaw06.ChunkPushes': WHATEVER THE INPUT: true; the input reads as it did. -/
def chunkPushesSpec : ChangeSpec := { name := "chunkPushes", fn := fun _ => fun
  | [d] => { results := [.lit (.bool true)], args := [d] }
  | _ => none }
def chunkPushesRow : OpenClaim := { program := "ytlabkldpcbmjbaa", sum := "99ca4d55f6ec5de7ad0a734b2f9edbd2bd73468c68edca235492ed91bfeca73f", func := "satchel/satchellaw06.ChunkPushes", spec := "chunkPushes", unfollowed := true, recurses := true, apart := false }
def ChunkPushesSaid : Prop := chunkPushesRow.holds Try.pinned (OpenSpec.ofChange chunkPushesSpec)

/-- ITS FALSE NEIGHBOUR: 'it returns false'. Refute it at one input. -/
def chunkPushesWrong : ChangeSpec := { name := "chunkPushes", fn := fun _ => fun
  | [d] => { results := [.lit (.bool false)], args := [d] }
  | _ => none }
def ChunkPushesWrongFalsely : Prop := chunkPushesRow.holds Try.pinned (OpenSpec.ofChange chunkPushesWrong)

/-- 'satchellaw06.ChunkNone': WHATEVER THE INPUT: true; the input reads as it did. -/
def chunkNoneSpec : ChangeSpec := { name := "chunkNone", fn := fun _ => fun
  | [d] => { results := [.lit (.bool true)], args := [d] }
  | _ => none }
def chunkNoneRow : OpenClaim := { program := "ytlabkldpcbmjbaa", sum := "99ca4d55f6ec5de7ad0a734b2f9edbd2bd73468c68edca235492ed91bfeca73f", func := "satchel/satchellaw06.ChunkNone", spec := "chunkNone", unfollowed := true, recurses := true, apart := false }
def ChunkNoneSaid : Prop := chunkNoneRow.holds Try.pinned (OpenSpec.ofChange chunkNoneSpec)

/-- ITS FALSE NEIGHBOUR: 'it returns false'. Refute it at one input. -/
def chunkNoneWrong : ChangeSpec := { name := "chunkNone", fn := fun _ => fun
  | [d] => { results := [.lit (.bool false)], args := [d] }
  | _ => none }
def ChunkNoneWrongFalsely : Prop := chunkNoneRow.holds Try.pinned (OpenSpec.ofChange chunkNoneWrong)

/-- 'satchellaw06.ChunkPieces': WHATEVER THE INPUT: true; the input reads as it did. -/
def chunkPiecesSpec : ChangeSpec := { name := "chunkPieces", fn := fun _ => fun
  | [d1, d2] => { results := [.lit (.bool true)], args := [d1, d2] }
  | _ => none }
def chunkPiecesRow : OpenClaim := { program := "ytlabkldpcbmjbaa", sum := "99ca4d55f6ec5de7ad0a734b2f9edbd2bd73468c68edca235492ed91bfeca73f", func := "satchel/satchellaw06.ChunkPieces", spec := "chunkPieces", unfollowed := true, recurses := true, apart := false }
def ChunkPiecesSaid : Prop := chunkPiecesRow.holds Try.pinned (OpenSpec.ofChange chunkPiecesSpec)

/-- ITS FALSE NEIGHBOUR: 'it returns false'. Refute it at one input. -/
def chunkPiecesWrong : ChangeSpec := { name := "chunkPieces", fn := fun _ => fun
  | [d1, d2] => { results := [.lit (.bool false)], args := [d1, d2] }
  | _ => none }
def ChunkPiecesWrongFalsely : Prop := chunkPiecesRow.holds Try.pinned (OpenSpec.ofChange chunkPiecesWrong)

/-- 'satchellaw06.ChunkAlone': WHATEVER THE INPUT: true; the input reads as it did. -/
def chunkAloneSpec : ChangeSpec := { name := "chunkAlone", fn := fun _ => fun
  | [d1, d2, d3] => { results := [.lit (.bool true)], args := [d1, d2, d3] }
  | _ => none }
def chunkAloneRow : OpenClaim := { program := "ytlabkldpcbmjbaa", sum := "99ca4d55f6ec5de7ad0a734b2f9edbd2bd73468c68edca235492ed91bfeca73f", func := "satchel/satchellaw06.ChunkAlone", spec := "chunkAlone", unfollowed := true, recurses := true, apart := false }
def ChunkAloneSaid : Prop := chunkAloneRow.holds Try.pinned (OpenSpec.ofChange chunkAloneSpec)

/-- ITS FALSE NEIGHBOUR: 'it returns false'. Refute it at one input. -/
def chunkAloneWrong : ChangeSpec := { name := "chunkAlone", fn := fun _ => fun
  | [d1, d2, d3] => { results := [.lit (.bool false)], args := [d1, d2, d3] }
  | _ => none }
def ChunkAloneWrongFalsely : Prop := chunkAloneRow.holds Try.pinned (OpenSpec.ofChange chunkAloneWrong)

/-- 'satchellaw06.ChunkEdits': WHATEVER THE INPUT: true; the input reads as it did. -/
def chunkEditsSpec : ChangeSpec := { name := "chunkEdits", fn := fun _ => fun
  | [d1, d2, d3, d4] => { results := [.lit (.bool true)], args := [d1, d2, d3, d4] }
  | _ => none }
def chunkEditsRow : OpenClaim := { program := "ytlabkldpcbmjbaa", sum := "99ca4d55f6ec5de7ad0a734b2f9edbd2bd73468c68edca235492ed91bfeca73f", func := "satchel/satchellaw06.ChunkEdits", spec := "chunkEdits", unfollowed := true, recurses := true, apart := false }
def ChunkEditsSaid : Prop := chunkEditsRow.holds Try.pinned (OpenSpec.ofChange chunkEditsSpec)

/-- ITS FALSE NEIGHBOUR: 'it returns false'. Refute it at one input. -/
def chunkEditsWrong : ChangeSpec := { name := "chunkEdits", fn := fun _ => fun
  | [d1, d2, d3, d4] => { results := [.lit (.bool false)], args := [d1, d2, d3, d4] }
  | _ => none }
def ChunkEditsWrongFalsely : Prop := chunkEditsRow.holds Try.pinned (OpenSpec.ofChange chunkEditsWrong)

/-- 'satchellaw06.ChunkKnown': WHATEVER THE INPUT: true; the input reads as it did. -/
def chunkKnownSpec : ChangeSpec := { name := "chunkKnown", fn := fun _ => fun
  | [] => { results := [.lit (.bool true)], args := [] }
  | _ => none }
def chunkKnownRow : OpenClaim := { program := "ytlabkldpcbmjbaa", sum := "99ca4d55f6ec5de7ad0a734b2f9edbd2bd73468c68edca235492ed91bfeca73f", func := "satchel/satchellaw06.ChunkKnown", spec := "chunkKnown", unfollowed := true, recurses := true, apart := false }
def ChunkKnownSaid : Prop := chunkKnownRow.holds Try.pinned (OpenSpec.ofChange chunkKnownSpec)

/-- ITS FALSE NEIGHBOUR: 'it returns false'. Refute it at one input. -/
def chunkKnownWrong : ChangeSpec := { name := "chunkKnown", fn := fun _ => fun
  | [] => { results := [.lit (.bool false)], args := [] }
  | _ => none }
def ChunkKnownWrongFalsely : Prop := chunkKnownRow.holds Try.pinned (OpenSpec.ofChange chunkKnownWrong)

/-- 'satchellaw06.ChunkWhole': WHATEVER THE INPUT: true; the input reads as it did. -/
def chunkWholeSpec : ChangeSpec := { name := "chunkWhole", fn := fun _ => fun
  | [d] => { results := [.lit (.bool true)], args := [d] }
  | _ => none }
def chunkWholeRow : OpenClaim := { program := "ytlabkldpcbmjbaa", sum := "99ca4d55f6ec5de7ad0a734b2f9edbd2bd73468c68edca235492ed91bfeca73f", func := "satchel/satchellaw06.ChunkWhole", spec := "chunkWhole", unfollowed := true, recurses := true, apart := false }
def ChunkWholeSaid : Prop := chunkWholeRow.holds Try.pinned (OpenSpec.ofChange chunkWholeSpec)

/-- ITS FALSE NEIGHBOUR: 'it returns false'. Refute it at one input. -/
def chunkWholeWrong : ChangeSpec := { name := "chunkWhole", fn := fun _ => fun
  | [d] => { results := [.lit (.bool false)], args := [d] }
  | _ => none }
def ChunkWholeWrongFalsely : Prop := chunkWholeRow.holds Try.pinned (OpenSpec.ofChange chunkWholeWrong)

/- THE SECOND FORM. 'bulk': how many values and letters a reading holds, each counted each time it is reached (what is shared counts as often as it is met; a slice's spare places count too). A statement '..UptoSaid' is the law's where the arguments, and the package variables that the reading takes, are together of bulk at most 1048576: NARROWER than '..Said'. Prove '..Said' where nothing that the law and all that it calls make is longer than what came in: it says more and counts as full. Else prove '..UptoSaid'. A law counts once. -/
mutual
def uptoBulk {H : Type} : DataW H → Nat
  | .lit (.string bytes) => bytes.length + 1
  | .lit _ => 1
  | .nil => 1
  | .ptr d => uptoBulk d + 1
  | .slice elems spare => uptoBulkAll elems + uptoBulkAll spare + 1
  | .agg parts => uptoBulkAll parts + 1
  | .iface _ d => uptoBulk d + 1
  | .map entries => uptoBulkEntries entries + 1
  | .held _ => 1
def uptoBulkAll {H : Type} : List (DataW H) → Nat
  | [] => 0
  | d :: r => uptoBulk d + uptoBulkAll r
def uptoBulkEntries {H : Type} : List (Lit × DataW H) → Nat
  | [] => 0
  | x :: r => uptoBulkEntry x + uptoBulkEntries r
def uptoBulkEntry {H : Type} : Lit × DataW H → Nat
  | (.string bytes, d) => bytes.length + uptoBulk d + 1
  | (_, d) => uptoBulk d + 1
 end
def uptoSmall : (H : Type) → List (DataW H) → Bool := fun _ ds => decide (uptoBulkAll ds ≤ 1048576)
def OpenSpec.upto (s : _root_.Go.ChangeSpec) : _root_.Go.OpenSpec := { _root_.Go.OpenSpec.ofChange s with cond := some uptoSmall }

/-- 'satchellaw06.ChunkCuts', WHERE WHAT IT READS IS OF BULK AT MOST 1048576: true; the input reads as it did. -/
def chunkCutsUptoRow : OpenClaim := { program := "ytlabkldpcbmjbaa", sum := "99ca4d55f6ec5de7ad0a734b2f9edbd2bd73468c68edca235492ed91bfeca73f", func := "satchel/satchellaw06.ChunkCuts", spec := "chunkCuts", unfollowed := true, recurses := true, apart := false, narrowed := true }
def ChunkCutsUptoSaid : Prop := chunkCutsUptoRow.holds Try.pinned (OpenSpec.upto chunkCutsSpec)

/-- 'satchellaw06.ChunkPushes', WHERE WHAT IT READS IS OF BULK AT MOST 1048576: true; the input reads as it did. -/
def chunkPushesUptoRow : OpenClaim := { program := "ytlabkldpcbmjbaa", sum := "99ca4d55f6ec5de7ad0a734b2f9edbd2bd73468c68edca235492ed91bfeca73f", func := "satchel/satchellaw06.ChunkPushes", spec := "chunkPushes", unfollowed := true, recurses := true, apart := false, narrowed := true }
def ChunkPushesUptoSaid : Prop := chunkPushesUptoRow.holds Try.pinned (OpenSpec.upto chunkPushesSpec)

/-- 'satchellaw06.ChunkNone', WHERE WHAT IT READS IS OF BULK AT MOST 1048576: true; the input reads as it did. -/
def chunkNoneUptoRow : OpenClaim := { program := "ytlabkldpcbmjbaa", sum := "99ca4d55f6ec5de7ad0a734b2f9edbd2bd73468c68edca235492ed91bfeca73f", func := "satchel/satchellaw06.ChunkNone", spec := "chunkNone", unfollowed := true, recurses := true, apart := false, narrowed := true }
def ChunkNoneUptoSaid : Prop := chunkNoneUptoRow.holds Try.pinned (OpenSpec.upto chunkNoneSpec)

/-- 'satchellaw06.ChunkPieces', WHERE WHAT IT READS IS OF BULK AT MOST 1048576: true; the input reads as it did. -/
def chunkPiecesUptoRow : OpenClaim := { program := "ytlabkldpcbmjbaa", sum := "99ca4d55f6ec5de7ad0a734b2f9edbd2bd73468c68edca235492ed91bfeca73f", func := "satchel/satchellaw06.ChunkPieces", spec := "chunkPieces", unfollowed := true, recurses := true, apart := false, narrowed := true }
def ChunkPiecesUptoSaid : Prop := chunkPiecesUptoRow.holds Try.pinned (OpenSpec.upto chunkPiecesSpec)

/-- 'satchellaw06.ChunkAlone', WHERE WHAT IT READS IS OF BULK AT MOST 1048576: true; the input reads as it did. -/
def chunkAloneUptoRow : OpenClaim := { program := "ytlabkldpcbmjbaa", sum := "99ca4d55f6ec5de7ad0a734b2f9edbd2bd73468c68edca235492ed91bfeca73f", func := "satchel/satchellaw06.ChunkAlone", spec := "chunkAlone", unfollowed := true, recurses := true, apart := false, narrowed := true }
def ChunkAloneUptoSaid : Prop := chunkAloneUptoRow.holds Try.pinned (OpenSpec.upto chunkAloneSpec)

/-- 'satchellaw06.ChunkEdits', WHERE WHAT IT READS IS OF BULK AT MOST 1048576: true; the input reads as it did. -/
def chunkEditsUptoRow : OpenClaim := { program := "ytlabkldpcbmjbaa", sum := "99ca4d55f6ec5de7ad0a734b2f9edbd2bd73468c68edca235492ed91bfeca73f", func := "satchel/satchellaw06.ChunkEdits", spec := "chunkEdits", unfollowed := true, recurses := true, apart := false, narrowed := true }
def ChunkEditsUptoSaid : Prop := chunkEditsUptoRow.holds Try.pinned (OpenSpec.upto chunkEditsSpec)

/-- 'satchellaw06.ChunkKnown', WHERE WHAT IT READS IS OF BULK AT MOST 1048576: true; the input reads as it did. -/
def chunkKnownUptoRow : OpenClaim := { program := "ytlabkldpcbmjbaa", sum := "99ca4d55f6ec5de7ad0a734b2f9edbd2bd73468c68edca235492ed91bfeca73f", func := "satchel/satchellaw06.ChunkKnown", spec := "chunkKnown", unfollowed := true, recurses := true, apart := false, narrowed := true }
def ChunkKnownUptoSaid : Prop := chunkKnownUptoRow.holds Try.pinned (OpenSpec.upto chunkKnownSpec)

/-- 'satchellaw06.ChunkWhole', WHERE WHAT IT READS IS OF BULK AT MOST 1048576: true; the input reads as it did. -/
def chunkWholeUptoRow : OpenClaim := { program := "ytlabkldpcbmjbaa", sum := "99ca4d55f6ec5de7ad0a734b2f9edbd2bd73468c68edca235492ed91bfeca73f", func := "satchel/satchellaw06.ChunkWhole", spec := "chunkWhole", unfollowed := true, recurses := true, apart := false, narrowed := true }
def ChunkWholeUptoSaid : Prop := chunkWholeUptoRow.holds Try.pinned (OpenSpec.upto chunkWholeSpec)

end Rows
end Go.Proofs.Ytlabkldpcbmjbaa
