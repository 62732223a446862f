/-
  No cell of these rows narrows 'for every input' (looked for: loops, veiled, ifaces, maps, wideKeys, modest, calm, conditions, laid).
  DERIVED. THE GIVEN ROWS OF THIS SEAT. 6 by the template 'for every input the law returns true; each argument reads behind the call as it read before'; 0 by the template 'total and deterministic' (their statements: YtaibdkdmilhloaaTotals.lean).
  GIVEN WITH THE SEED: the statements are not yours to turn. If you find one false, say at which input.
  Laid BY PROGRAM, IN A SANDBOX (cutbox-rows.mjs): the forced cells as the released guide's own fill.sh prints them over the translation 4c273efa18b72b1c… (all of the seat's roots in one cut). By AI agents, Wed Nov 11 2026. No macro, syntax, notation, axiom, sorry.
-/
import Derived.Test.YtaibdkdmilhloaaChecked
import GoSem.Claim
import GoSem.ClaimJoined
import GoSem.ClaimMapViews
import Derived.JoinedTies
import Derived.KernelRfl
namespace Go.Proofs.Ytaibdkdmilhloaa
/- THE CELL 'sum', in the pinned program and in every row, IS THE sha256 OF THE DUMP (.gsa) THAT YtaibdkdmilhloaaProg.lean LOADS. Nothing in Lean hashes anything: it is a label: what it is worth is what the hold of that sum in a sandbox is worth. -/
noncomputable def Try.pinned : Pinned := { name := "ytaibdkdmilhloaa", sum := "4c273efa18b72b1cbb961269530290cb660f8081f3ff42ca0904451b0097c86a", checked := Try.checked }
namespace Rows
def none {H : Type} : Left H := { results := [], args := [] }

/-- 'satchellaw20.RefsChoose': WHATEVER THE INPUT: true; the input reads as it did. -/
def refsChooseSpec : ChangeSpec := { name := "refsChoose", fn := fun _ => fun
  | [d1, d2, d3] => { results := [.lit (.bool true)], args := [d1, d2, d3] }
  | _ => none }
def refsChooseRow : OpenClaim := { program := "ytaibdkdmilhloaa", sum := "4c273efa18b72b1cbb961269530290cb660f8081f3ff42ca0904451b0097c86a", func := "satchel/satchellaw20.RefsChoose", spec := "refsChoose", unfollowed := true, recurses := true, plainKeys := false, apart := false }
def RefsChooseSaid : Prop := refsChooseRow.holds Try.pinned (OpenSpec.ofChange refsChooseSpec)

/-- ITS FALSE NEIGHBOUR: 'it returns false'. Refute it at one input. -/
def refsChooseWrong : ChangeSpec := { name := "refsChoose", fn := fun _ => fun
  | [d1, d2, d3] => { results := [.lit (.bool false)], args := [d1, d2, d3] }
  | _ => none }
def RefsChooseWrongFalsely : Prop := refsChooseRow.holds Try.pinned (OpenSpec.ofChange refsChooseWrong)

/-- 'satchellaw20.RefsLost': WHATEVER THE INPUT: true; the input reads as it did. -/
def refsLostSpec : ChangeSpec := { name := "refsLost", fn := fun _ => fun
  | [d1, d2] => { results := [.lit (.bool true)], args := [d1, d2] }
  | _ => none }
def refsLostRow : OpenClaim := { program := "ytaibdkdmilhloaa", sum := "4c273efa18b72b1cbb961269530290cb660f8081f3ff42ca0904451b0097c86a", func := "satchel/satchellaw20.RefsLost", spec := "refsLost", unfollowed := true, recurses := true, plainKeys := false, apart := false }
def RefsLostSaid : Prop := refsLostRow.holds Try.pinned (OpenSpec.ofChange refsLostSpec)

/-- ITS FALSE NEIGHBOUR: 'it returns false'. Refute it at one input. -/
def refsLostWrong : ChangeSpec := { name := "refsLost", fn := fun _ => fun
  | [d1, d2] => { results := [.lit (.bool false)], args := [d1, d2] }
  | _ => none }
def RefsLostWrongFalsely : Prop := refsLostRow.holds Try.pinned (OpenSpec.ofChange refsLostWrong)

/-- 'satchellaw20.RefsWorst': WHATEVER THE INPUT: true; the input reads as it did. -/
def refsWorstSpec : ChangeSpec := { name := "refsWorst", fn := fun _ => fun
  | [d1, d2, d3, d4] => { results := [.lit (.bool true)], args := [d1, d2, d3, d4] }
  | _ => none }
def refsWorstRow : OpenClaim := { program := "ytaibdkdmilhloaa", sum := "4c273efa18b72b1cbb961269530290cb660f8081f3ff42ca0904451b0097c86a", func := "satchel/satchellaw20.RefsWorst", spec := "refsWorst", unfollowed := true, recurses := true, plainKeys := false, apart := false }
def RefsWorstSaid : Prop := refsWorstRow.holds Try.pinned (OpenSpec.ofChange refsWorstSpec)

/-- ITS FALSE NEIGHBOUR: 'it returns false'. Refute it at one input. -/
def refsWorstWrong : ChangeSpec := { name := "refsWorst", fn := fun _ => fun
  | [d1, d2, d3, d4] => { results := [.lit (.bool false)], args := [d1, d2, d3, d4] }
  | _ => none }
def RefsWorstWrongFalsely : Prop := refsWorstRow.holds Try.pinned (OpenSpec.ofChange refsWorstWrong)

/-- 'satchellaw20.RefsCount': WHATEVER THE INPUT: true; the input reads as it did. -/
def refsCountSpec : ChangeSpec := { name := "refsCount", fn := fun _ => fun
  | [d1, d2, d3] => { results := [.lit (.bool true)], args := [d1, d2, d3] }
  | _ => none }
def refsCountRow : OpenClaim := { program := "ytaibdkdmilhloaa", sum := "4c273efa18b72b1cbb961269530290cb660f8081f3ff42ca0904451b0097c86a", func := "satchel/satchellaw20.RefsCount", spec := "refsCount", unfollowed := true, recurses := true, plainKeys := false, apart := false }
def RefsCountSaid : Prop := refsCountRow.holds Try.pinned (OpenSpec.ofChange refsCountSpec)

/-- ITS FALSE NEIGHBOUR: 'it returns false'. Refute it at one input. -/
def refsCountWrong : ChangeSpec := { name := "refsCount", fn := fun _ => fun
  | [d1, d2, d3] => { results := [.lit (.bool false)], args := [d1, d2, d3] }
  | _ => none }
def RefsCountWrongFalsely : Prop := refsCountRow.holds Try.pinned (OpenSpec.ofChange refsCountWrong)

/-- 'satchellaw20.RefsAlive': WHATEVER THE INPUT: true; the input reads as it did. -/
def refsAliveSpec : ChangeSpec := { name := "refsAlive", fn := fun _ => fun
  | [d1, d2, d3, d4] => { results := [.lit (.bool true)], args := [d1, d2, d3, d4] }
  | _ => none }
def refsAliveRow : OpenClaim := { program := "ytaibdkdmilhloaa", sum := "4c273efa18b72b1cbb961269530290cb660f8081f3ff42ca0904451b0097c86a", func := "satchel/satchellaw20.RefsAlive", spec := "refsAlive", unfollowed := true, recurses := true, plainKeys := false, apart := false }
def RefsAliveSaid : Prop := refsAliveRow.holds Try.pinned (OpenSpec.ofChange refsAliveSpec)

/-- ITS FALSE NEIGHBOUR: 'it returns false'. Refute it at one input. -/
def refsAliveWrong : ChangeSpec := { name := "refsAlive", fn := fun _ => fun
  | [d1, d2, d3, d4] => { results := [.lit (.bool false)], args := [d1, d2, d3, d4] }
  | _ => none }
def RefsAliveWrongFalsely : Prop := refsAliveRow.holds Try.pinned (OpenSpec.ofChange refsAliveWrong)

/-- 'satchellaw20.RefsKnown': WHATEVER THE INPUT: true; the input reads as it did. -/
def refsKnownSpec : ChangeSpec := { name := "refsKnown", fn := fun _ => fun
  | [] => { results := [.lit (.bool true)], args := [] }
  | _ => none }
def refsKnownRow : OpenClaim := { program := "ytaibdkdmilhloaa", sum := "4c273efa18b72b1cbb961269530290cb660f8081f3ff42ca0904451b0097c86a", func := "satchel/satchellaw20.RefsKnown", spec := "refsKnown", inPlace := ["math.Float64frombits"], unfollowed := true, recurses := true, plainKeys := false, apart := false }
def RefsKnownSaid : Prop := refsKnownRow.holds Try.pinned (OpenSpec.ofChange refsKnownSpec)

/-- ITS FALSE NEIGHBOUR: 'it returns false'. Refute it at one input. -/
def refsKnownWrong : ChangeSpec := { name := "refsKnown", fn := fun _ => fun
  | [] => { results := [.lit (.bool false)], args := [] }
  | _ => none }
def RefsKnownWrongFalsely : Prop := refsKnownRow.holds Try.pinned (OpenSpec.ofChange refsKnownWrong)

/- THE SECOND FORM. 'bulk': how many values and letters a reading holds, each counted each time it is reached (what is shared counts as often as it is met; a slice's spare places count too). A statement '..UptoSaid' is the law's where the arguments, and the package variables that the reading takes, are together of bulk at most 1048576: NARROWER than '..Said'. Prove '..Said' where nothing that the law and all that it calls make is longer than what came in: it says more and counts as full. Else prove '..UptoSaid'. A law counts once. -/
mutual
def uptoBulk {H : Type} : DataW H → Nat
  | .lit (.string bytes) => bytes.length + 1
  | .lit _ => 1
  | .nil => 1
  | .ptr d => uptoBulk d + 1
  | .slice elems spare => uptoBulkAll elems + uptoBulkAll spare + 1
  | .agg parts => uptoBulkAll parts + 1
  | .iface _ d => uptoBulk d + 1
  | .map entries => uptoBulkEntries entries + 1
  | .held _ => 1
def uptoBulkAll {H : Type} : List (DataW H) → Nat
  | [] => 0
  | d :: r => uptoBulk d + uptoBulkAll r
def uptoBulkEntries {H : Type} : List (Lit × DataW H) → Nat
  | [] => 0
  | x :: r => uptoBulkEntry x + uptoBulkEntries r
def uptoBulkEntry {H : Type} : Lit × DataW H → Nat
  | (.string bytes, d) => bytes.length + uptoBulk d + 1
  | (_, d) => uptoBulk d + 1
 end
def uptoSmall : (H : Type) → List (DataW H) → Bool := fun _ ds => decide (uptoBulkAll ds ≤ 1048576)
def OpenSpec.upto (s : _root_.Go.ChangeSpec) : _root_.Go.OpenSpec := { _root_.Go.OpenSpec.ofChange s with cond := some uptoSmall }

/-- 'satchellaw20.RefsChoose', WHERE WHAT IT READS IS OF BULK AT MOST 1048576: true; the input reads as it did. -/
def refsChooseUptoRow : OpenClaim := { program := "ytaibdkdmilhloaa", sum := "4c273efa18b72b1cbb961269530290cb660f8081f3ff42ca0904451b0097c86a", func := "satchel/satchellaw20.RefsChoose", spec := "refsChoose", unfollowed := true, recurses := true, plainKeys := false, apart := false, narrowed := true }
def RefsChooseUptoSaid : Prop := refsChooseUptoRow.holds Try.pinned (OpenSpec.upto refsChooseSpec)

/-- 'satchellaw20.RefsLost', WHERE WHAT IT READS IS OF BULK AT MOST 1048576: true; the input reads as it did. -/
def refsLostUptoRow : OpenClaim := { program := "ytaibdkdmilhloaa", sum := "4c273efa18b72b1cbb961269530290cb660f8081f3ff42ca0904451b0097c86a", func := "satchel/satchellaw20.RefsLost", spec := "refsLost", unfollowed := true, recurses := true, plainKeys := false, apart := false, narrowed := true }
def RefsLostUptoSaid : Prop := refsLostUptoRow.holds Try.pinned (OpenSpec.upto refsLostSpec)

/-- 'satchellaw20.RefsWorst', WHERE WHAT IT READS IS OF BULK AT MOST 1048576: true; the input reads as it did. -/
def refsWorstUptoRow : OpenClaim := { program := "ytaibdkdmilhloaa", sum := "4c273efa18b72b1cbb961269530290cb660f8081f3ff42ca0904451b0097c86a", func := "satchel/satchellaw20.RefsWorst", spec := "refsWorst", unfollowed := true, recurses := true, plainKeys := false, apart := false, narrowed := true }
def RefsWorstUptoSaid : Prop := refsWorstUptoRow.holds Try.pinned (OpenSpec.upto refsWorstSpec)

/-- 'satchellaw20.RefsCount', WHERE WHAT IT READS IS OF BULK AT MOST 1048576: true; the input reads as it did. -/
def refsCountUptoRow : OpenClaim := { program := "ytaibdkdmilhloaa", sum := "4c273efa18b72b1cbb961269530290cb660f8081f3ff42ca0904451b0097c86a", func := "satchel/satchellaw20.RefsCount", spec := "refsCount", unfollowed := true, recurses := true, plainKeys := false, apart := false, narrowed := true }
def RefsCountUptoSaid : Prop := refsCountUptoRow.holds Try.pinned (OpenSpec.upto refsCountSpec)

/-- 'satchellaw20.RefsAlive', WHERE WHAT IT READS IS OF BULK AT MOST 1048576: true; the input reads as it did. -/
def refsAliveUptoRow : OpenClaim := { program := "ytaibdkdmilhloaa", sum := "4c273efa18b72b1cbb961269530290cb660f8081f3ff42ca0904451b0097c86a", func := "satchel/satchellaw20.RefsAlive", spec := "refsAlive", unfollowed := true, recurses := true, plainKeys := false, apart := false, narrowed := true }
def RefsAliveUptoSaid : Prop := refsAliveUptoRow.holds Try.pinned (OpenSpec.upto refsAliveSpec)

/-- 'satchellaw20.RefsKnown', WHERE WHAT IT READS IS OF BULK AT MOST 1048576: true; the input reads as it did. -/
def refsKnownUptoRow : OpenClaim := { program := "ytaibdkdmilhloaa", sum := "4c273efa18b72b1cbb961269530290cb660f8081f3ff42ca0904451b0097c86a", func := "satchel/satchellaw20.RefsKnown", spec := "refsKnown", inPlace := ["math.Float64frombits"], unfollowed := true, recurses := true, plainKeys := false, apart := false, narrowed := true }
def RefsKnownUptoSaid : Prop := refsKnownUptoRow.holds Try.pinned (OpenSpec.upto refsKnownSpec)

end Rows
end Go.Proofs.Ytaibdkdmilhloaa
