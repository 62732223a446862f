/- LinkNone: the walk. (Written by wip/lnnone.py.) -/
import Derived.Test.YtokembhfebnjpaaQBsM
import Derived.Test.YtokembhfebnjpaaQLsM
namespace Go.Proofs.Ytokembhfebnjpaa
set_option maxRecDepth 20000
open Go.RowKit Flt
set_option linter.unusedVariables false
set_option linter.unusedSimpArgs false
set_option maxHeartbeats 2000000 in
theorem linkNone_walk (a0 : Option Addr) (len0 cap0 : Nat) (n1 : Int) (w : World) (r0 : Rdg Try.prog w 22 [.slice a0 len0 cap0]) (r1 : Rdg Try.prog w 3 [.int .i64 n1]) :
    Calls Try.prog 5 #[.slice a0 len0 cap0, .int .i64 n1] w fun e w' => e = .returned (.bool true) ∧ Below w.heap.size w w' := by
  clear r0 r1
  by_cases hl : (len0 : Int) > 3000
  · go_enter Try.func5, Try.ntmps5
    go_wp2_with fail
    go_at_call 7
    refine (awake_any _).mono ?_
    rintro e w4 ⟨rfl, k4⟩
    have K4 := Lib.hid k4
    clear k4
    go_wp2_with fail
    go_ret
    exact ⟨rfl, K4.out.below (fun _ _ h => h)⟩
  · go_enter Try.func5, Try.ntmps5
    go_wp2_with fail
    obtain ⟨g, hg⟩ : ∃ g, g = w.heap.size := ⟨_, rfl⟩
    obtain ⟨al, hal⟩ : ∃ al, al = g + 1 := ⟨_, rfl⟩
    obtain ⟨w5, hw5⟩ : ∃ w5, w5 = (w.alloc (.cells #[.nilIface] 47)).alloc (.cells #[.pointer none, .pointer (some ⟨w.heap.size, 0, none⟩)] 24) := ⟨_, rfl⟩
    have z5 : w5.cell? ⟨g, 0, none⟩ = some .nilIface := by rw [hw5, hg]; exact ((At.new w [.nilIface] _).alloc _).cell 0
    have p5 : At w5 al [.pointer none, .pointer (some ⟨g, 0, none⟩)] := by
      have := At.new (w.alloc (.cells #[.nilIface] 47)) [.pointer none, .pointer (some ⟨w.heap.size, 0, none⟩)] 24
      rw [World.size_alloc] at this
      rw [hw5, hal, hg]
      exact this
    have k5 : Kp (fun _ => False) w w5 := by rw [hw5]; exact ((Kp.refl _ w).alloc _).alloc _
    rw [← hw5, ← hg, ← hal]
    have H5 := Lib.hid (And.intro z5 (And.intro p5 k5))
    clear hg hal hw5 z5 p5 k5
    go_loopw [6] (fun iv wr => ∃ i : Nat, i ≤ 2 ∧ iv = .int .i64 i ∧ Kp (fun _ => False) w5 wr) (fun iv _ => 2 - (intOf iv).toNat)
    case atStart => exact ⟨0, by omega, rfl, Kp.refl _ _⟩
    case round =>
      obtain ⟨i, hi, rfl, hk⟩ := hrel
      have HK := Lib.hid hk
      by_cases h0 : i = 0
      · subst h0
        have cp := hk.cell ((H5.out.2.1.cell 0).trans (show _ = some (.pointer none) from rfl)) (fun h => h)
        clear hk
        go_wp2_with (first | (go_at_call 14; refine (lreceive_nil _ _ _ _ _).mono ?_; rintro e w' ⟨rfl, rfl⟩) | (go_at_call 12; refine (lsend_nil _ _ _ _).mono ?_; rintro e w' ⟨rfl, rfl⟩) | (go_at_call 15; refine (ltick_nil _ _).mono ?_; rintro e w' ⟨rfl, rfl⟩) | (go_at_call 16; refine (lstate_nil _).mono ?_; rintro e w' ⟨rfl, rfl⟩) | (go_at_call 21; refine (lsession_nil _).mono ?_; rintro e w' ⟨rfl, rfl⟩) | (go_at_call 11; refine (lboot_nil _).mono ?_; rintro e w' ⟨rfl, rfl⟩) | (go_at_call 22; refine (lopen_nil _).mono ?_; rintro e w' ⟨rfl, rfl⟩) | (go_at_call 17; refine (lgot_nil _).mono ?_; rintro e w' ⟨rfl, rfl⟩))
        go_roundw
        case rel => exact ⟨1, by omega, by go_num, HK.out⟩
        case measure => simp [intOf]
      · by_cases h1 : i = 1
        · subst h1
          have cp := hk.cell ((H5.out.2.1.cell 1).trans (show _ = some (.pointer (some ⟨g, 0, none⟩)) from rfl)) (fun h => h)
          have hz := hk.cell H5.out.1 (fun h => h)
          clear hk
          go_wp2_with (first | (go_at_call 14; refine (lreceive_un _ _ _ _ g _ hz).mono ?_; rintro e w' ⟨rfl, rfl⟩) | (go_at_call 12; refine (lsend_un _ _ _ g _ hz).mono ?_; rintro e w' ⟨rfl, rfl⟩) | (go_at_call 15; refine (ltick_un _ g _ hz).mono ?_; rintro e w' ⟨rfl, rfl⟩) | (go_at_call 16; refine (lstate_un g _ hz).mono ?_; rintro e w' ⟨rfl, rfl⟩) | (go_at_call 21; refine (lsession_un g _ hz).mono ?_; rintro e w' ⟨rfl, rfl⟩) | (go_at_call 11; refine (lboot_un g _ hz).mono ?_; rintro e w' ⟨rfl, rfl⟩) | (go_at_call 22; refine (lopen_un g _ hz).mono ?_; rintro e w' ⟨rfl, rfl⟩) | (go_at_call 17; refine (lgot_un g _ hz).mono ?_; rintro e w' ⟨rfl, rfl⟩))
          go_roundw
          case rel => exact ⟨2, by omega, by go_num, HK.out⟩
          case measure => simp [intOf]
        · obtain rfl : i = 2 := by omega
          clear hk h0 h1 hi
          go_wp2_with fail
          go_at_call 7
          refine (awake_any _).mono ?_
          rintro e w6 ⟨rfl, k6⟩
          have K6 := Lib.hid k6
          clear k6
          go_wp2_with fail
          go_ret
          exact ⟨rfl, ((H5.out.2.2.trans HK.out).trans K6.out).below (fun _ _ h => h)⟩
end Go.Proofs.Ytokembhfebnjpaa
