/- Reading slices: a slice in the middle. -/
import Derived.Test.YtlabkldpcbmjbaaBase
namespace Go.Proofs.Ytlabkldpcbmjbaa
open Go.RowKit
set_option linter.unusedVariables false
theorem RdB.mid2 {w : World} {b off cap : Nat} {l : List Int} (h : RdB w (some ⟨b, off, none⟩) l) (i n : Nat) (hi : i ≤ l.length) (hc : l.length ≤ cap) : RdB w (if cap = i then some ⟨b, off, none⟩ else some ⟨b, off + i, none⟩) ((l.drop i).take n) := by
  by_cases e : cap = i
  · rw [if_pos e, List.drop_of_length_le (by omega), List.take_nil]; exact RdB.nil _ _
  · rw [if_neg e]; exact h.slice i n
end Go.Proofs.Ytlabkldpcbmjbaa
