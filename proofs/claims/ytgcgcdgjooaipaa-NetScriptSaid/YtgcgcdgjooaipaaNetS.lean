/- Package net: none, end, pair, New, all, Lost. -/
import Derived.Test.YtgcgcdgjooaipaaNet
import Derived.Test.YtgcgcdgjooaipaaMapS
import Derived.Test.YtgcgcdgjooaipaaKit
namespace Go.Proofs.Ytgcgcdgjooaipaa
open Go.RowKit Go.Maps Go.WideMaps
set_option linter.unusedVariables false
set_option linter.unusedSimpArgs false
theorem arr2 : ArrKey Try.prog 74 3 2 := ⟨Try.underlying74, by kernel_rfl, by kernel_rfl, by kernel_rfl⟩
theorem law2 : Keyed Try.prog 74 := Keyed.of_law arr2.law
theorem key2 (a b : Int) (ha : 0 ≤ a ∧ a ≤ 1000) (hb : 0 ≤ b ∧ b ≤ 1000) : ∃ k, keyOf Try.prog 74 (.agg #[.int .i64 a, .int .i64 b]) = some k :=
  ⟨_, keyOf_pair arr2 Try.underlying3 ⟨Try.prog.types.size - 1, by kernel_rfl⟩ (WalkArith.wf_i64 (by omega)) (WalkArith.wf_i64 (by omega))⟩
theorem none_at (nb : Nat) (w : World) (c0 : w.cell? ⟨nb, 0, none⟩ = some (.bool true)) :
    Calls Try.prog 31 #[.pointer (some ⟨nb, 0, none⟩)] w fun e w' => e = .returned (.bool false) ∧ w = w' := by
  go_enter Try.func31, Try.ntmps31
  go_wp2
  go_ret
  exact ⟨rfl, rfl⟩
theorem none_off (nb : Nat) (w : World) (c0 : w.cell? ⟨nb, 0, none⟩ = some (.bool false)) :
    Calls Try.prog 31 #[.pointer (some ⟨nb, 0, none⟩)] w fun e w' => e = .returned (.bool true) ∧ w = w' := by
  go_enter Try.func31, Try.ntmps31
  go_wp2
  go_ret
  exact ⟨rfl, rfl⟩
theorem none_nil (w : World) :
    Calls Try.prog 31 #[.pointer none] w fun e w' => e = .returned (.bool true) ∧ w = w' := by
  go_enter Try.func31, Try.ntmps31
  go_wp2
  go_ret
  exact ⟨rfl, rfl⟩
def isEnd (n : Int) : Bool := decide (0 ≤ n ∧ n < 64)
theorem end_any (n : Int) (w : World) :
    Calls Try.prog 32 #[.int .i64 n] w fun e w' => e = .returned (.bool (isEnd n)) ∧ w = w' := by
  go_enter Try.func32, Try.ntmps32
  go_wp2
  all_goals go_ret
  all_goals exact ⟨ret_bool (by unfold isEnd; simp; omega), rfl⟩
def pairV (a b : Int) : Value := .agg #[.int .i64 (min a b), .int .i64 (max a b)]
theorem pairV_of {a b c d : Int} (h : c = min a b) (h' : d = max a b) : pairV a b = .agg #[.int .i64 c, .int .i64 d] := by unfold pairV; rw [h, h']
theorem pair_any (a b : Int) (w : World) :
    Calls Try.prog 39 #[.int .i64 a, .int .i64 b] w fun e w' => e = .returned (pairV a b) ∧ Kp (fun _ => False) w w' := by
  have hi : (Try.prog.info? 74).map (·.size) = some 2 := by kernel_rfl
  go_enter Try.func39, Try.ntmps39
  go_wp2
  all_goals
    refine bodyPost_ret (results_cell_row rfl _ _ w.heap.size 74 _ (0, 0) _ rfl (heap_alloc_new w _) Try.underlying74 rfl hi) rfl ⟨?_, (Kp.refl _ w).alloc _⟩
    exact congrArg Ending.returned (pairV_of (by omega) (by omega)).symm
theorem new_any (w : World) :
    Calls Try.prog 10 #[] w fun e w' => ∃ nb mb, e = .returned (.pointer (some ⟨nb, 0, none⟩)) ∧ NetC w' nb [] 0 mb 0 ∧ SetV Try.prog 74 w' mb 0 (fun _ => false) ∧ w.heap.size ≤ nb ∧ w.heap.size ≤ mb ∧ Kp (fun _ => False) w w' := by
  have hmm := @run_makeMap Try.prog
  go_enter Try.func10, Try.ntmps10
  go_wp2
  go_ret
  have h1 := At.new (w.alloc (.map #[] 0)) (netC none 0 w.heap.size 0) 61
  rw [World.size_alloc] at h1
  refine ⟨w.heap.size + 1, w.heap.size, rfl, ⟨h1, fun i hi => ?_, fun i hi => ?_, fun i hi => ?_, fun i j hi => ?_, fun i j b hi => ?_⟩, (SetV.made w).kp ((Kp.refl (fun _ => False) _).alloc _) (fun h => h), by omega, Nat.le_refl _, ((Kp.refl _ w).alloc _).alloc _⟩
  all_goals exact absurd hi (Nat.not_lt_zero _)
theorem all_any (nb : Nat) (w : World) :
    Calls Try.prog 36 #[.pointer (some ⟨nb, 0, none⟩)] w fun e w' => e = .returned (.func (.func 49) #[] #[.pointer (some ⟨w.heap.size, 0, none⟩)]) ∧ At w' w.heap.size [.pointer (some ⟨nb, 0, none⟩)] ∧ Kp (fun _ => False) w w' := by
  go_enter Try.func36, Try.ntmps36
  go_wp2
  go_ret
  exact ⟨rfl, At.new w [.pointer (some ⟨nb, 0, none⟩)] _, (Kp.refl _ w).alloc _⟩
theorem lost_any (nb : Nat) (lost : Int) (w : World) (c0 : w.cell? ⟨nb, 0, none⟩ = some (.bool true)) (c7 : w.cell? ⟨nb, 7, none⟩ = some (.int .i64 lost)) :
    Calls Try.prog 20 #[.pointer (some ⟨nb, 0, none⟩)] w fun e w' => e = .returned (.int .i64 lost) ∧ w = w' := by
  go_enter Try.func20, Try.ntmps20
  go_wp2_with (go_at_call 31; (with_reducible refine (none_at nb _ c0).mono ?_); rintro e w' ⟨rfl, rfl⟩)
  go_ret
  exact ⟨rfl, rfl⟩
end Go.Proofs.Ytgcgcdgjooaipaa
