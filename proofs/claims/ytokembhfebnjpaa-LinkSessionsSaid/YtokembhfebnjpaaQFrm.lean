/- Package frame: known, types, as, Check. -/
import Derived.Test.YtokembhfebnjpaaQBsM
import Derived.Test.YtokembhfebnjpaaQFrmM
import Derived.Outline
namespace Go.Proofs.Ytokembhfebnjpaa
set_option maxRecDepth 20000
open Go.RowKit
set_option linter.unusedVariables false
theorem known_any (t : Int) (w : World) : Calls Try.prog 37 #[.int .i64 t] w fun e w' => e = .returned (.bool (decide (typedP t))) ∧ w = w' := by
  by_cases h1 : 1 ≤ t
  · by_cases h2 : t ≤ 5
    · have hd : decide (typedP t) = true := by simp [typedP, h1, h2]
      rw [hd]
      go_enter Try.func37, Try.ntmps37
      go_wp2
      go_ret
      simp [go_sem]
    · have hd : decide (typedP t) = false := by simp [typedP, h2]
      rw [hd]
      go_enter Try.func37, Try.ntmps37
      go_wp2
      go_ret
      simp [go_sem]
  · have hd : decide (typedP t) = false := by simp [typedP, h1]
    rw [hd]
    go_enter Try.func37, Try.ntmps37
    go_wp2
    go_ret
    simp [go_sem]
def tyC : List Value := [
  .bool false, .bool false, .bool false, .bool false, .bool false,
  .bool false, .bool false, .bool false, .bool false, .bool false,
  .bool true, .bool false, .bool false, .bool false, .bool true,
  .bool true, .bool true, .bool true, .bool true, .bool true,
  .bool true, .bool false, .bool true, .bool false, .bool true,
  .bool false, .bool false, .bool false, .bool false, .bool true]
theorem types_any (w : World) : Calls Try.prog 44 #[] w fun e w' => e = .returned (.pointer (some ⟨w.heap.size, 0, none⟩)) ∧ At w' w.heap.size tyC ∧ Kp (fun _ => False) w w' := by
  go_enter Try.func44, Try.ntmps44
  go_wp2
  go_ret
  exact ⟨rfl, At.new w tyC _, (Kp.refl _ w).alloc _⟩
end Go.Proofs.Ytokembhfebnjpaa
