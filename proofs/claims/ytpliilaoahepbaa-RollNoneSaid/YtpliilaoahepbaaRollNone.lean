/- The walk of RollNone: it returns true, whatever comes in. No condition. -/
import Derived.Test.YtpliilaoahepbaaRollL
import Derived.Test.YtpliilaoahepbaaOpen
namespace Go.Proofs.Ytpliilaoahepbaa
open Go.RowKit
set_option linter.unusedVariables false
theorem rollNone_walk (a0 : Int) (w : World) (w0 : Rdg Try.prog w 5 [.int .u8 a0]) :
    Calls Try.prog 8 #[.int .u8 a0] w fun e w' => e = .returned (.bool true) ∧ Below w.heap.size w w' := by
  go_enter Try.func8, Try.ntmps8
  go_wp2_with fail
  refine wp_world (fun w' => w'.cell? ⟨w.heap.size + 1, 0, none⟩ = some (.pointer none) ∧ w'.cell? ⟨w.heap.size + 1, 1, none⟩ = some (.pointer (some ⟨w.heap.size, 0, none⟩)) ∧ w'.cell? ⟨w.heap.size, 18, none⟩ = some (.bool false) ∧ Kp (fun _ => False) w w') ⟨?_, ?_, ?_, ?_⟩ ?_
  · go_simp
  · go_simp
  · go_simp
  · exact ((Kp.refl _ w).alloc _).alloc _
  rintro w1 ⟨h0, h1, h2, hk⟩
  go_loop [4] (fun i => ∃ k : Nat, k ≤ 2 ∧ i = .int .i64 k) (fun i => 2 - (intOf i).toNat)
  case atStart => exact ⟨0, by omega, rfl⟩
  case round =>
    obtain ⟨k, hk2, rfl⟩ := hrel
    match k, hk2 with
    | 0, _ =>
      go_wp2_with (first | (go_at_call 24; refine (push_nil _ _).mono ?_; rintro e w' ⟨rfl, rfl⟩) | (go_at_call 25; refine (rsumm_nil _).mono ?_; rintro e w' ⟨rfl, rfl⟩) | (go_at_call 26; refine (full_nil _).mono ?_; rintro e w' ⟨rfl, rfl⟩))
      go_round
      case rel => exact ⟨1, by omega, rfl⟩
      case measure => simp [intOf]
    | 1, _ =>
      go_wp2_with (first | (go_at_call 24; refine (push_un _ _ h2 _).mono ?_; rintro e w' ⟨rfl, rfl⟩) | (go_at_call 25; refine (rsumm_un _ _ h2).mono ?_; rintro e w' ⟨rfl, rfl⟩) | (go_at_call 26; refine (full_un _ _ h2).mono ?_; rintro e w' ⟨rfl, rfl⟩))
      go_round
      case rel => exact ⟨2, by omega, rfl⟩
      case measure => simp [intOf]
    | 2, _ =>
      go_wp2_with fail
      refine (awake_any _).mono ?_
      rintro e w2 ⟨rfl, hk2⟩
      go_wp2
      go_ret
      exact ⟨rfl, (hk.trans hk2).below (fun _ _ h => h)⟩
end Go.Proofs.Ytpliilaoahepbaa
