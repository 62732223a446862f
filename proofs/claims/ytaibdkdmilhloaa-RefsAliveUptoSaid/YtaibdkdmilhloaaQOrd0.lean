/- Order of nothing. -/
import Derived.Test.YtaibdkdmilhloaaQSrtE
namespace Go.Proofs.Ytaibdkdmilhloaa
open Go.RowKit
set_option linter.unusedVariables false
set_option linter.unusedSimpArgs false
theorem order_nil (a : Option Addr) (c : Nat) (w : World) : Calls Try.prog 36 #[.slice a 0 c] w fun e w' => e = .returned (.slice none 0 0) ∧ Kp (fun _ => False) w w' := by
  have CI : Hid (∀ w' fv, Calls Try.prog 54 #[.slice none 0 0, .int .i64 0, .int .i64 0, fv] w' fun e w'' => e = .returned (.tuple #[]) ∧ w' = w'') := fun w' fv => by
    go_enter Try.func54, Try.ntmps54
    go_wp2
    go_loopw [8] (fun i wr => i = .int .i64 1 ∧ wr = w') (fun i _ => 0)
    case atStart => exact ⟨rfl, rfl⟩
    case round =>
      obtain ⟨rfl, rfl⟩ := hrel
      go_wp2
      go_end0
      exact ⟨rfl, rfl⟩
  have CT : Hid (∀ w' fv, Calls Try.prog 53 #[.slice none 0 0, .int .i64 0, fv] w' fun e w'' => e = .returned (.tuple #[]) ∧ w' = w'') := fun w' fv => by
    go_enter Try.func53, Try.ntmps53
    go_wp2
    go_loopw [7, 8] (fun a b wr => a = .int .i64 0 ∧ b = .int .i64 20 ∧ wr = w') (fun _ _ _ => 0)
    case atStart => exact ⟨rfl, rfl, rfl⟩
    case round =>
      obtain ⟨rfl, rfl, rfl⟩ := hrel
      go_wp2_with (go_at_call 54; (with_reducible refine (CI.out _ _).mono ?_); rintro e w2 ⟨rfl, rfl⟩)
      go_loopw [6] (fun b w2 => b = .int .i64 20 ∧ w2 = wr) (fun _ _ => 0)
      case atStart => exact ⟨rfl, rfl⟩
      case round =>
        obtain ⟨rfl, rfl⟩ := hrel
        go_wp2
        go_end0
        exact ⟨rfl, rfl⟩
  have CS : Hid (∀ w' fv, Calls Try.prog 48 #[.slice none 0 0, fv] w' fun e w'' => e = .returned (.tuple #[]) ∧ w' = w'') := fun w' fv => by
    go_enter Try.func48, Try.ntmps48
    go_wp2_with (go_at_call 53; (with_reducible refine (CT.out _ _).mono ?_); rintro e w2 ⟨rfl, rfl⟩)
    go_end0
    exact ⟨rfl, rfl⟩
  have hc0 := (At.new w [.slice a 0 c] 62).cell 0
  have hf0 := (At.new w [.slice a 0 c] 62).frozen 0
  obtain ⟨w0, hw0⟩ : ∃ w0, w0 = w.alloc (.cells #[.slice a 0 c] 62) := ⟨_, rfl⟩
  have k0 : Hid (Kp (fun _ => False) w w0) := by show Kp _ _ _; rw [hw0]; exact (Kp.refl _ w).alloc _
  have HW0 := Lib.hid hw0
  clear hw0
  go_enter Try.func36, Try.ntmps36
  go_wp2
  rw [← HW0.out]
  go_loopw [3, 7] (fun v i wr => v = .slice none 0 0 ∧ i = .int .i64 0 ∧ wr = w0) (fun _ _ _ => 0)
  case atStart => exact ⟨rfl, rfl, rfl⟩
  case round =>
    obtain ⟨rfl, rfl, rfl⟩ := hrel
    go_wp2_with (go_at_call 48; (with_reducible refine (CS.out _ _).mono ?_); rintro e w2 ⟨rfl, rfl⟩)
    go_ret
    exact ⟨rfl, k0.out⟩
/-- Order of any floats. -/
theorem order_any (a : Option Addr) (c : Nat) (l : List Nat) (w : World) (hr : RdF w a l) (hl : l.length ≤ 1000000) :
    Calls Try.prog 36 #[.slice a l.length c] w fun e w' => ∃ va vc W, e = .returned (.slice va l.length vc) ∧ W.Pairwise (Rr (ltF l)) ∧ W.Perm (List.range l.length) ∧ Rd w' va (nums W) ∧ Kp (fun _ => False) w w' := by
  rcases Nat.eq_zero_or_pos l.length with h | h
  · have hl0 : l = [] := List.eq_nil_of_length_eq_zero h
    subst hl0
    refine (order_nil a c w).mono ?_
    rintro e w' ⟨rfl, k⟩
    exact ⟨none, 0, [], rfl, List.Pairwise.nil, List.Perm.refl _, fun i hi => by simp [nums] at hi, k⟩
  · refine (order_pos a c l w hr h hl).mono ?_
    rintro e w' ⟨v, W, rfl, p1, p2, hv, _, k⟩
    obtain ⟨va, vc, rfl, _⟩ := hv.form
    exact ⟨va, vc, W, rfl, p1, p2, hv.rd, k⟩
end Go.Proofs.Ytaibdkdmilhloaa
