/- A constant's bytes, converted: a block of bytes. -/
import Derived.Test.YtokembhfebnjpaaGreatQBaseM
import Derived.Lib.SlBytesConst
namespace Go.Proofs.YtokembhfebnjpaaGreat
set_option maxRecDepth 20000
open Go.RowKit
set_option linter.unusedVariables false
theorem rdb_mark (w : World) (l : List Int) (hl : Byt l) (hlen : l.length ≤ 4611686018427387904) (T : TypeId) (m : Nat × Nat) : RdB (w.alloc (.cells (l.map (Value.int .u8)).toArray T m)) (some ⟨w.heap.size, 0, none⟩) l :=
 ⟨fun i hi => ⟨_, _, rfl, by
  have e := heap_alloc_new w (.cells (l.map (Value.int .u8)).toArray T m)
  simp only [World.cell?]
  rw [e]
  simp [List.getD_eq_getElem?_getD, hi]⟩, hl, hlen⟩
theorem kc_any (w : World) (C : Array Value) (n c : Nat) : (convert 32 32 (.slice (some ⟨w.heap.size, 0, none⟩) n c)).run Tryz.prog (w.alloc (.cells C 5)) = .ok (.slice (some ⟨w.heap.size, 0, none⟩) n c) (w.alloc (.cells C 5 (C.size, C.size + 1))) :=
 Lib.run_convert_bytes_const (P := Tryz.prog) w 32 5 C n c Tryz.underlying32 Tryz.underlying5
end Go.Proofs.YtokembhfebnjpaaGreat
