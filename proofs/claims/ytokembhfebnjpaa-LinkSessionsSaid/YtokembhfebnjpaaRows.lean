/-
  No cell of these rows narrows 'for every input' (looked for: loops, veiled, ifaces, maps, wideKeys, modest, calm, conditions, laid).
  DERIVED. THE GIVEN ROWS OF THIS SEAT. 4 by the template 'for every input the law returns true; each argument reads behind the call as it read before'; 0 by the template 'total and deterministic' (their statements: YtokembhfebnjpaaTotals.lean).
  GIVEN WITH THE SEED: the statements are not yours to turn. If you find one false, say at which input.
  Laid BY PROGRAM, IN A SANDBOX (cutbox-rows.mjs): the forced cells as the released guide's own fill.sh prints them over the translation c5c00a46e001a4c7… (all of the seat's roots in one cut). By AI agents, Wed Nov 11 2026. No macro, syntax, notation, axiom, sorry.
-/
import Derived.Test.YtokembhfebnjpaaChecked
import GoSem.Claim
import GoSem.ClaimJoined
import GoSem.ClaimMapViews
import Derived.JoinedTies
import Derived.KernelRfl
namespace Go.Proofs.Ytokembhfebnjpaa
/- THE CELL 'sum', in the pinned program and in every row, IS THE sha256 OF THE DUMP (.gsa) THAT YtokembhfebnjpaaProg.lean LOADS. Nothing in Lean hashes anything: it is a label: what it is worth is what the hold of that sum in a sandbox is worth. -/
noncomputable def Try.pinned : Pinned := { name := "ytokembhfebnjpaa", sum := "c5c00a46e001a4c7ec3413920c0639657ae1693a91bbe12bf8648e89a0a6bfb3", checked := Try.checked }
namespace Rows
def none {H : Type} : Left H := { results := [], args := [] }

/-- 'satchellaw15.LinkBoots': WHATEVER THE INPUT: true; the input reads as it did. -/
def linkBootsSpec : ChangeSpec := { name := "linkBoots", fn := fun _ => fun
  | [d1, d2, d3] => { results := [.lit (.bool true)], args := [d1, d2, d3] }
  | _ => none }
def linkBootsRow : OpenClaim := { program := "ytokembhfebnjpaa", sum := "c5c00a46e001a4c7ec3413920c0639657ae1693a91bbe12bf8648e89a0a6bfb3", func := "satchel/satchellaw15.LinkBoots", spec := "linkBoots", unfollowed := true, recurses := true, apart := false }
def LinkBootsSaid : Prop := linkBootsRow.holds Try.pinned (OpenSpec.ofChange linkBootsSpec)

/-- ITS FALSE NEIGHBOUR: 'it returns false'. Refute it at one input. -/
def linkBootsWrong : ChangeSpec := { name := "linkBoots", fn := fun _ => fun
  | [d1, d2, d3] => { results := [.lit (.bool false)], args := [d1, d2, d3] }
  | _ => none }
def LinkBootsWrongFalsely : Prop := linkBootsRow.holds Try.pinned (OpenSpec.ofChange linkBootsWrong)

/-- 'satchellaw15.LinkKnown': WHATEVER THE INPUT: true; the input reads as it did. -/
def linkKnownSpec : ChangeSpec := { name := "linkKnown", fn := fun _ => fun
  | [] => { results := [.lit (.bool true)], args := [] }
  | _ => none }
def linkKnownRow : OpenClaim := { program := "ytokembhfebnjpaa", sum := "c5c00a46e001a4c7ec3413920c0639657ae1693a91bbe12bf8648e89a0a6bfb3", func := "satchel/satchellaw15.LinkKnown", spec := "linkKnown", unfollowed := true, recurses := true, apart := false }
def LinkKnownSaid : Prop := linkKnownRow.holds Try.pinned (OpenSpec.ofChange linkKnownSpec)

/-- ITS FALSE NEIGHBOUR: 'it returns false'. Refute it at one input. -/
def linkKnownWrong : ChangeSpec := { name := "linkKnown", fn := fun _ => fun
  | [] => { results := [.lit (.bool false)], args := [] }
  | _ => none }
def LinkKnownWrongFalsely : Prop := linkKnownRow.holds Try.pinned (OpenSpec.ofChange linkKnownWrong)

/-- 'satchellaw15.LinkNone': WHATEVER THE INPUT: true; the input reads as it did. -/
def linkNoneSpec : ChangeSpec := { name := "linkNone", fn := fun _ => fun
  | [d1, d2] => { results := [.lit (.bool true)], args := [d1, d2] }
  | _ => none }
def linkNoneRow : OpenClaim := { program := "ytokembhfebnjpaa", sum := "c5c00a46e001a4c7ec3413920c0639657ae1693a91bbe12bf8648e89a0a6bfb3", func := "satchel/satchellaw15.LinkNone", spec := "linkNone", unfollowed := true, recurses := true, apart := false }
def LinkNoneSaid : Prop := linkNoneRow.holds Try.pinned (OpenSpec.ofChange linkNoneSpec)

/-- ITS FALSE NEIGHBOUR: 'it returns false'. Refute it at one input. -/
def linkNoneWrong : ChangeSpec := { name := "linkNone", fn := fun _ => fun
  | [d1, d2] => { results := [.lit (.bool false)], args := [d1, d2] }
  | _ => none }
def LinkNoneWrongFalsely : Prop := linkNoneRow.holds Try.pinned (OpenSpec.ofChange linkNoneWrong)

/-- 'satchellaw15.LinkSessions': WHATEVER THE INPUT: true; the input reads as it did. -/
def linkSessionsSpec : ChangeSpec := { name := "linkSessions", fn := fun _ => fun
  | [d] => { results := [.lit (.bool true)], args := [d] }
  | _ => none }
def linkSessionsRow : OpenClaim := { program := "ytokembhfebnjpaa", sum := "c5c00a46e001a4c7ec3413920c0639657ae1693a91bbe12bf8648e89a0a6bfb3", func := "satchel/satchellaw15.LinkSessions", spec := "linkSessions", unfollowed := true, recurses := true, apart := false }
def LinkSessionsSaid : Prop := linkSessionsRow.holds Try.pinned (OpenSpec.ofChange linkSessionsSpec)

/-- ITS FALSE NEIGHBOUR: 'it returns false'. Refute it at one input. -/
def linkSessionsWrong : ChangeSpec := { name := "linkSessions", fn := fun _ => fun
  | [d] => { results := [.lit (.bool false)], args := [d] }
  | _ => none }
def LinkSessionsWrongFalsely : Prop := linkSessionsRow.holds Try.pinned (OpenSpec.ofChange linkSessionsWrong)

/- THE SECOND FORM. 'bulk': how many values and letters a reading holds, each counted each time it is reached (what is shared counts as often as it is met; a slice's spare places count too). A statement '..UptoSaid' is the law's where the arguments, and the package variables that the reading takes, are together of bulk at most 1048576: NARROWER than '..Said'. Prove '..Said' where nothing that the law and all that it calls make is longer than what came in: it says more and counts as full. Else prove '..UptoSaid'. A law counts once. -/
mutual
def uptoBulk {H : Type} : DataW H → Nat
  | .lit (.string bytes) => bytes.length + 1
  | .lit _ => 1
  | .nil => 1
  | .ptr d => uptoBulk d + 1
  | .slice elems spare => uptoBulkAll elems + uptoBulkAll spare + 1
  | .agg parts => uptoBulkAll parts + 1
  | .iface _ d => uptoBulk d + 1
  | .map entries => uptoBulkEntries entries + 1
  | .held _ => 1
def uptoBulkAll {H : Type} : List (DataW H) → Nat
  | [] => 0
  | d :: r => uptoBulk d + uptoBulkAll r
def uptoBulkEntries {H : Type} : List (Lit × DataW H) → Nat
  | [] => 0
  | x :: r => uptoBulkEntry x + uptoBulkEntries r
def uptoBulkEntry {H : Type} : Lit × DataW H → Nat
  | (.string bytes, d) => bytes.length + uptoBulk d + 1
  | (_, d) => uptoBulk d + 1
 end
def uptoSmall : (H : Type) → List (DataW H) → Bool := fun _ ds => decide (uptoBulkAll ds ≤ 1048576)
def OpenSpec.upto (s : _root_.Go.ChangeSpec) : _root_.Go.OpenSpec := { _root_.Go.OpenSpec.ofChange s with cond := some uptoSmall }

/-- 'satchellaw15.LinkBoots', WHERE WHAT IT READS IS OF BULK AT MOST 1048576: true; the input reads as it did. -/
def linkBootsUptoRow : OpenClaim := { program := "ytokembhfebnjpaa", sum := "c5c00a46e001a4c7ec3413920c0639657ae1693a91bbe12bf8648e89a0a6bfb3", func := "satchel/satchellaw15.LinkBoots", spec := "linkBoots", unfollowed := true, recurses := true, apart := false, narrowed := true }
def LinkBootsUptoSaid : Prop := linkBootsUptoRow.holds Try.pinned (OpenSpec.upto linkBootsSpec)

/-- 'satchellaw15.LinkKnown', WHERE WHAT IT READS IS OF BULK AT MOST 1048576: true; the input reads as it did. -/
def linkKnownUptoRow : OpenClaim := { program := "ytokembhfebnjpaa", sum := "c5c00a46e001a4c7ec3413920c0639657ae1693a91bbe12bf8648e89a0a6bfb3", func := "satchel/satchellaw15.LinkKnown", spec := "linkKnown", unfollowed := true, recurses := true, apart := false, narrowed := true }
def LinkKnownUptoSaid : Prop := linkKnownUptoRow.holds Try.pinned (OpenSpec.upto linkKnownSpec)

/-- 'satchellaw15.LinkNone', WHERE WHAT IT READS IS OF BULK AT MOST 1048576: true; the input reads as it did. -/
def linkNoneUptoRow : OpenClaim := { program := "ytokembhfebnjpaa", sum := "c5c00a46e001a4c7ec3413920c0639657ae1693a91bbe12bf8648e89a0a6bfb3", func := "satchel/satchellaw15.LinkNone", spec := "linkNone", unfollowed := true, recurses := true, apart := false, narrowed := true }
def LinkNoneUptoSaid : Prop := linkNoneUptoRow.holds Try.pinned (OpenSpec.upto linkNoneSpec)

/-- 'satchellaw15.LinkSessions', WHERE WHAT IT READS IS OF BULK AT MOST 1048576: true; the input reads as it did. -/
def linkSessionsUptoRow : OpenClaim := { program := "ytokembhfebnjpaa", sum := "c5c00a46e001a4c7ec3413920c0639657ae1693a91bbe12bf8648e89a0a6bfb3", func := "satchel/satchellaw15.LinkSessions", spec := "linkSessions", unfollowed := true, recurses := true, apart := false, narrowed := true }
def LinkSessionsUptoSaid : Prop := linkSessionsUptoRow.holds Try.pinned (OpenSpec.upto linkSessionsSpec)

end Rows
end Go.Proofs.Ytokembhfebnjpaa
