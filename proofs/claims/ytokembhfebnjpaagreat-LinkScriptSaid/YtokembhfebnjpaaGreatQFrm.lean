/- Package frame: known, types, as, Check. -/
import Derived.Test.YtokembhfebnjpaaGreatQGrdMM
import Derived.Test.YtokembhfebnjpaaGreatQKt0M
import Derived.Outline
namespace Go.Proofs.YtokembhfebnjpaaGreat
set_option maxRecDepth 20000
open Go.RowKit
set_option linter.unusedVariables false
theorem known_any (t : Int) (w : World) : Calls Tryz.prog 59 #[.int .i64 t] w fun e w' => e = .returned (.bool (decide (typedP t))) ∧ w = w' := by
 by_cases h1 : 1 ≤ t
 · by_cases h2 : t ≤ 5
   · have hd : decide (typedP t) = true := by simp [typedP, h1, h2]
     rw [hd]
     go_enter Tryz.func59, Tryz.ntmps59
     go_wp2
     go_ret
     simp [go_sem]
   · have hd : decide (typedP t) = false := by simp [typedP, h2]
     rw [hd]
     go_enter Tryz.func59, Tryz.ntmps59
     go_wp2
     go_ret
     simp [go_sem]
 · have hd : decide (typedP t) = false := by simp [typedP, h1]
   rw [hd]
   go_enter Tryz.func59, Tryz.ntmps59
   go_wp2
   go_ret
   simp [go_sem]
def tyC : List Value := [
 .bool false, .bool false, .bool false, .bool false, .bool false,
 .bool false, .bool false, .bool false, .bool false, .bool false,
 .bool true, .bool false, .bool false, .bool false, .bool true,
 .bool true, .bool true, .bool true, .bool true, .bool true,
 .bool true, .bool false, .bool true, .bool false, .bool true,
 .bool false, .bool false, .bool false, .bool false, .bool true]
theorem types_any (w : World) : Calls Tryz.prog 75 #[] w fun e w' => e = .returned (.pointer (some ⟨w.heap.size, 0, none⟩)) ∧ At w' w.heap.size tyC ∧ Kp (fun _ => False) w w' := by
 go_enter Tryz.func75, Tryz.ntmps75
 go_wp2
 go_ret
 exact ⟨rfl, At.new w tyC _, (Kp.refl _ w).alloc _⟩
end Go.Proofs.YtokembhfebnjpaaGreat
