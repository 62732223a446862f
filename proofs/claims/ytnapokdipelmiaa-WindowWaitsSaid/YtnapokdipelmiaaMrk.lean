/- A constant's bytes, converted: a block of bytes. -/
import Derived.Test.YtnapokdipelmiaaBase
import Derived.Lib.SlBytesConst
namespace Go.Proofs.Ytnapokdipelmiaa
open Go.RowKit
set_option linter.unusedVariables false
theorem rdb_mark (w : World) (l : List Int) (hl : Byt l) (hlen : l.length ≤ 4611686018427387904) (T : TypeId) (m : Nat × Nat) : RdB (w.alloc (.cells (l.map (Value.int .u8)).toArray T m)) (some ⟨w.heap.size, 0, none⟩) l :=
  ⟨fun i hi => ⟨_, _, rfl, by
    have e := heap_alloc_new w (.cells (l.map (Value.int .u8)).toArray T m)
    simp only [World.cell?]
    rw [e]
    simp [List.getD_eq_getElem?_getD, hi]⟩, hl, hlen⟩
/-- The run of []byte of a constant. -/
theorem kc_any (w : World) (C : Array Value) (n c : Nat) : (convert 31 31 (.slice (some ⟨w.heap.size, 0, none⟩) n c)).run Try.prog (w.alloc (.cells C 5)) = .ok (.slice (some ⟨w.heap.size, 0, none⟩) n c) (w.alloc (.cells C 5 (C.size, C.size + 1))) :=
  Lib.run_convert_bytes_const (P := Try.prog) w 31 5 C n c Try.underlying31 Try.underlying5
end Go.Proofs.Ytnapokdipelmiaa
