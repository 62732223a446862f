/- The walk of InboxNone: it returns true, whatever comes in. No condition. -/
import Derived.Test.YtnigdgopmmccgaaInbA
import Derived.Test.YtnigdgopmmccgaaOpen
namespace Go.Proofs.Ytnigdgopmmccgaa
open Go.RowKit
set_option linter.unusedVariables false
set_option maxRecDepth 100000 in
theorem inboxNone_walk (n0 : Int) (w : World) (r0 : Rdg Try.prog w 3 [.int .i64 n0]) :
    Calls Try.prog 4 #[.int .i64 n0] w fun e w' => e = .returned (.bool true) ∧ Below w.heap.size w w' := by
  have hz := zero_box
  go_enter Try.func4, Try.ntmps4
  go_wp2_with fail
  refine wp_world (fun w' => w'.cell? ⟨w.heap.size + 1, 0, none⟩ = some (.pointer none) ∧ w'.cell? ⟨w.heap.size + 1, 1, none⟩ = some (.pointer (some ⟨w.heap.size, 0, none⟩)) ∧ w'.cell? ⟨w.heap.size, 0, none⟩ = some (.int .i64 0) ∧ Kp (fun _ => False) w w') ⟨?_, ?_, ?_, ?_⟩ ?_
  · go_simp
  · go_simp
  · have h1 : (w.alloc (.cells zbox.toArray 51)).cell? ⟨w.heap.size, 0, none⟩ = some (.int .i64 0) := by rw [(At.new w zbox _).cell]; rfl
    exact ((Kp.refl (fun _ => False) _).alloc _).cell h1 (fun h => h)
  · exact ((Kp.refl _ w).alloc _).alloc _
  rintro w1 ⟨h0, h1, h2, hk⟩
  clear hz
  have HW := Lib.hid (And.intro h0 (And.intro h1 h2))
  clear h0 h1 h2
  go_loopw [4] (fun i wr => ∃ k : Nat, k ≤ 2 ∧ i = .int .i64 k ∧ Kp (fun _ => False) w1 wr) (fun i _ => 2 - (intOf i).toNat)
  case atStart => exact ⟨0, by omega, rfl, Kp.refl _ _⟩
  case round =>
    obtain ⟨k, hk2, rfl, hkr⟩ := hrel
    have g0 := hkr.cell HW.out.1 (fun h => h)
    have g1 := hkr.cell HW.out.2.1 (fun h => h)
    have g2 := hkr.cell HW.out.2.2 (fun h => h)
    match k, hk2 with
    | 0, _ =>
      go_wp2_with fail
      refine (take_nil _ _ _ _ _).mono ?_
      rintro e w2 ⟨rfl, hk2⟩
      have g0' := hk2.cell g0 (fun h => h)
      have HK := Lib.hid (hkr.trans hk2)
      clear g0 g1 g2 hkr hk2
      go_wp2_with (first | (go_at_call 17; refine (next_nil _).mono ?_; rintro e w' ⟨rfl, rfl⟩) | (go_at_call 18; refine (held_nil _).mono ?_; rintro e w' ⟨rfl, rfl⟩) | (go_at_call 19; refine (has_nil _ _).mono ?_; rintro e w' ⟨rfl, rfl⟩))
      go_roundw
      case rel => exact ⟨1, by omega, rfl, HK.out⟩
      case measure => simp [intOf]
    | 1, _ =>
      go_wp2_with fail
      refine (take_un _ _ _ _ _ _ g2).mono ?_
      rintro e w2 ⟨rfl, hk2⟩
      have g1' := hk2.cell g1 (fun h => h)
      have g2' := hk2.cell g2 (fun h => h)
      have HK := Lib.hid (hkr.trans hk2)
      clear g0 g1 g2 hkr hk2
      go_wp2_with (first | (go_at_call 17; refine (next_un _ _ g2').mono ?_; rintro e w' ⟨rfl, rfl⟩) | (go_at_call 18; refine (held_un _ _ g2').mono ?_; rintro e w' ⟨rfl, rfl⟩) | (go_at_call 19; refine (has_un _ _ _ g2').mono ?_; rintro e w' ⟨rfl, rfl⟩))
      go_roundw
      case rel => exact ⟨2, by omega, rfl, HK.out⟩
      case measure => simp [intOf]
    | 2, _ =>
      go_wp2_with fail
      refine (awake_any _).mono ?_
      rintro e w2 ⟨rfl, hk2⟩
      go_wp2
      go_ret
      exact ⟨rfl, ((hk.trans hkr).trans hk2).below (fun _ _ h => h)⟩
end Go.Proofs.Ytnigdgopmmccgaa
