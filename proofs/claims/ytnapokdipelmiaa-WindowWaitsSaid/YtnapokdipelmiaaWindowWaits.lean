/- WindowWaits: the walk, its parts joined. (Written by wip/winparts.py.) -/
import Derived.Test.YtnapokdipelmiaaWwB
import Derived.Test.YtnapokdipelmiaaWwE
import Derived.Test.YtnapokdipelmiaaWwF
namespace Go.Proofs.Ytnapokdipelmiaa
open Go.RowKit Flt
set_option linter.unusedVariables false
theorem windowWaits_walk : ∀ (n0 n1 n2 n3 n4 : Int) (w : World) (r0 : Rdg Try.prog w 3 [.int .i64 n0]) (r1 : Rdg Try.prog w 3 [.int .i64 n1]) (r2 : Rdg Try.prog w 3 [.int .i64 n2]) (r3 : Rdg Try.prog w 3 [.int .i64 n3]) (r4 : Rdg Try.prog w 3 [.int .i64 n4]), Calls Try.prog 3 #[.int .i64 n0, .int .i64 n1, .int .i64 n2, .int .i64 n3, .int .i64 n4] w fun e w' => e = .returned (.bool true) ∧ Below w.heap.size w w' := wwA.2 wwB1 wwB2 (wwC.2 (wwD.2 wwF))
end Go.Proofs.Ytnapokdipelmiaa
