/- What abides a loop's book-keeping. No program in sight. -/
import Derived.Test.YtokembhfebnjpaaGreatQMemM
import Derived.Test.YtokembhfebnjpaaGreatQRngM
namespace Go.Proofs.YtokembhfebnjpaaGreat
set_option maxRecDepth 20000
open Go.RowKit
set_option linter.unusedVariables false
theorem Own.at' {w : World} {v : Value} {n size : Nat} {vs : List Value} (h : Own w v n size vs) {g : Nat} (hg : v.ownBlock = some g) : ∃ cs, At w g cs := by
 rcases h.2 with ⟨rfl, _⟩ | ⟨g', cap, sp, rfl, hat, r⟩
 · simp [Value.ownBlock] at hg
 · simp [Value.ownBlock] at hg; subst hg; exact ⟨_, hat⟩
theorem Own.notNC {B : Nat} {w : World} {v : Value} {n size : Nat} {vs : List Value} (h : Own w v n size vs) : ∀ g, v.ownBlock = some g → ¬ NC B w g := fun g hg => by
 obtain ⟨cs, ha⟩ := h.at' hg; exact NC.not ha
theorem KeepsFrom.of_kp {S : Nat → Prop} {B : Nat} {W W' : World} (k : Kp S W W') (h : ∀ i, S i → i < B ∨ ∃ cs, At W i cs) : KeepsFrom B W W' :=
 ⟨k.size, fun i o hB ho hc => by
  by_cases hs : S i
  · rcases h i hs with h1 | ⟨cs, e, h1⟩
    · omega
    · rw [ho] at h1; cases h1; cases hc
  · exact (k.block i (Array.getElem?_eq_some_iff.1 ho).1 hs).trans ho⟩
end Go.Proofs.YtokembhfebnjpaaGreat
