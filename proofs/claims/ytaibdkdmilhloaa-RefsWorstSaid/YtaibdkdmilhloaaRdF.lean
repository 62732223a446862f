/- Slices of floats. -/
import Derived.Test.YtaibdkdmilhloaaRtP
import Derived.WalkKit
namespace Go.Proofs.Ytaibdkdmilhloaa
open Go.RowKit Flt
set_option linter.unusedVariables false
def RdF (w : World) (a : Option Addr) (l : List Nat) : Prop := ∀ i, i < l.length → ∃ b off, a = some ⟨b, off, none⟩ ∧ w.cell? ⟨b, off + i, none⟩ = some (.float .f64 (l.getD i 0))
theorem RdF.kp0 {S : Nat → Prop} {w w' : World} {a : Option Addr} {l : List Nat} (h : RdF w a l) (hk : Kp S w w') (hs : ∀ i, i < w.heap.size → ¬ S i) : RdF w' a l := fun i hi => by
  obtain ⟨b, off, e, hc⟩ := h i hi
  have hlt : b < w.heap.size := by
    rcases Nat.lt_or_ge b w.heap.size with g | g
    · exact g
    · exfalso; unfold World.cell? at hc; simp [Array.getElem?_eq_none g] at hc
  exact ⟨b, off, e, hk.cell hc (hs b hlt)⟩
end Go.Proofs.Ytaibdkdmilhloaa
