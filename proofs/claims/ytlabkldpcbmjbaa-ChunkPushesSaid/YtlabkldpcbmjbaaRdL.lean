/- Lists of lists of bytes. No program in sight. -/
import Derived.Test.YtlabkldpcbmjbaaBase
namespace Go.Proofs.Ytlabkldpcbmjbaa
open Go.RowKit
set_option linter.unusedVariables false
/-- The slice reads as these lists of bytes. -/
def RdL (w : World) (a : Option Addr) (ls : List (List Int)) : Prop :=
  ∀ i, i < ls.length → ∃ b off ai ci, a = some ⟨b, off, none⟩ ∧ w.cell? ⟨b, off + i, none⟩ = some (.slice ai (ls.getD i []).length ci) ∧ RdB w ai (ls.getD i []) ∧ (ls.getD i []).length ≤ ci
theorem RdL.nil (w : World) (a : Option Addr) : RdL w a [] := fun i hi => by simp at hi
theorem RdL.kp0 {S : Nat → Prop} {w w' : World} {a : Option Addr} {ls : List (List Int)} (h : RdL w a ls) (hk : Kp S w w') (hs : ∀ i, i < w.heap.size → ¬ S i) : RdL w' a ls := fun i hi => by
  obtain ⟨b, off, ai, ci, ha, hc, hr, hl⟩ := h i hi
  exact ⟨b, off, ai, ci, ha, hk.cell (p := ⟨b, off + i, none⟩) hc (hs b (World.block_lt_of_cell? w _ hc)), hr.kp0 hk hs, hl⟩
theorem take_eq_iff {α : Type} [DecidableEq α] (ls ms : List α) (d : α) (k : Nat) (h1 : k < ls.length) (h2 : ls.length = ms.length) (h : ls.take k = ms.take k) : ls.take (k + 1) = ms.take (k + 1) ↔ ls.getD k d = ms.getD k d := by
  rw [take_snoc ls d k h1, take_snoc ms d k (by omega), h]
  simp
end Go.Proofs.Ytlabkldpcbmjbaa
