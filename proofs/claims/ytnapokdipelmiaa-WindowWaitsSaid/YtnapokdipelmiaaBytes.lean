/- A []byte of the call's own: its bytes, and its whole block, are bytes. No program in sight. -/
import Derived.Test.YtnapokdipelmiaaMem
namespace Go.Proofs.Ytnapokdipelmiaa
open Go.RowKit
set_option linter.unusedVariables false
def isB (u : Value) : Prop := ∃ n : Int, u = .int .u8 n ∧ 0 ≤ n ∧ n ≤ 255
structure OwnB (w : World) (v : Value) (l : List Int) : Prop where
  own : Own w v l.length 1 (l.map (Value.int .u8))
  blk : BlkP isB w v
  byt : Byt l
  len : l.length ≤ 1000000000
theorem OwnB.kp {S : Nat → Prop} {w w' : World} {v : Value} {l : List Int} (h : OwnB w v l) (hk : Kp S w w') (hs : ∀ g, v.ownBlock = some g → ¬ S g) : OwnB w' v l :=
  ⟨h.own.kp hk hs, h.blk.kp hk hs, h.byt, h.len⟩
theorem isB_map {l : List Int} (h : Byt l) : ∀ u ∈ l.map (Value.int .u8), isB u := fun u hu => by
  obtain ⟨n, hn, rfl⟩ := List.mem_map.1 hu
  exact ⟨n, rfl, h n hn⟩
theorem isB_zero : ∀ u ∈ (Value.int .u8 0).cells, isB u := fun u hu => by
  simp [Value.cells] at hu; subst hu; exact ⟨0, rfl, by omega, by omega⟩
theorem OwnB.form {w : World} {v : Value} {l : List Int} (h : OwnB w v l) : ∃ a c, v = .slice a l.length c ∧ RdB w a l ∧ l.length ≤ c := by
  obtain ⟨a, c, rfl, h1, h2⟩ := h.own.form
  have hlen := h.len
  refine ⟨a, c, rfl, ⟨fun i hi => ?_, h.byt, by omega⟩, h1⟩
  obtain ⟨b, off, ha, hc⟩ := h.own.rd i (by simpa using hi)
  exact ⟨b, off, ha, by rw [hc]; simp [List.getD_eq_getElem?_getD, List.getElem?_eq_getElem hi]⟩
theorem OwnB.lt {w : World} {v : Value} {l : List Int} (h : OwnB w v l) : ∀ g, v.ownBlock = some g → g < w.heap.size := h.own.lt
end Go.Proofs.Ytnapokdipelmiaa
