/- Bytes, as values of one cell. -/
import Derived.Test.YtnapokdipelmiaaMem
import Derived.Laws.BytesArg
namespace Go.Proofs.Ytnapokdipelmiaa
open Go.RowKit
set_option linter.unusedVariables false
theorem elem_u8 : Elem Try.prog 5 (.int .u8 0) 1 1 := Elem.mk' (by kernel_rfl) rfl (by omega) (by simp [Value.cells, Value.oneCell'])
theorem RdB.rd {w : World} {a : Option Addr} {l : List Int} (h : RdB w a l) : Rd w a (l.map (Value.int .u8)) := fun i hi => by
  simp at hi
  obtain ⟨b, off, ha, hc⟩ := h.cell i hi
  exact ⟨b, off, ha, by rw [hc]; simp [List.getD_eq_getElem?_getD, List.getElem?_eq_getElem hi]⟩
theorem oneCell_u8 (l : List Int) : ∀ v ∈ l.map (Value.int .u8), v.oneCell' = true := fun v hv => by
  obtain ⟨_, _, rfl⟩ := List.mem_map.1 hv; rfl
end Go.Proofs.Ytnapokdipelmiaa
