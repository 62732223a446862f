/- The walk of RollAlong: it returns true, whatever comes in. No condition. -/
import Derived.Test.YtpliilaoahepbaaRollSums
import Derived.Test.YtpliilaoahepbaaRollI
namespace Go.Proofs.Ytpliilaoahepbaa
open Go.RowKit
set_option linter.unusedVariables false
theorem window_next (l : List Int) (k : Nat) (h16 : 16 ≤ k) (hk : k < l.length) :
    rl (sm ((l.drop (k - 16)).take 16)) (l.getD (k - 16) 0) (l.getD k 0) = sm ((l.drop (k - 15)).take 16) := by
  have e1 : (l.drop (k - 16)).take 16 = l.getD (k - 16) 0 :: (l.drop (k - 15)).take 15 := by
    rw [List.drop_eq_getElem_cons (show k - 16 < l.length by omega), show k - 16 + 1 = k - 15 by omega, List.take_succ_cons]
    congr 1
    rw [List.getD_eq_getElem?_getD, List.getElem?_eq_getElem (show k - 16 < l.length by omega)]; rfl
  have e2 : (l.drop (k - 15)).take 16 = (l.drop (k - 15)).take 15 ++ [l.getD k 0] := by
    rw [take_snoc _ 0 15 (by simp; omega)]
    congr 2
    rw [List.getD_eq_getElem?_getD, List.getElem?_drop, show k - 15 + 15 = k by omega, List.getD_eq_getElem?_getD]
  rw [e1, e2]
  exact rl_sm _ _ _ (by simp; omega)

theorem rollAlong_walk (a0 : Option Addr) (len0 cap0 : Nat) (z0 : List Int) (w : World) (w0 : IsRow .u8 w a0 len0 cap0 z0) :
    Calls Try.prog 4 #[.slice a0 len0 cap0] w fun e w' => e = .returned (.bool true) ∧ Below w.heap.size w w' := by
  have hle := w0.le
  unfold maxLen at hle
  by_cases hlen : len0 < 16 ∨ 1000 < len0
  · clear w0
    by_cases h1 : len0 < 16
    all_goals
      go_enter Try.func4, Try.ntmps4
      go_wp2_with fail
      refine (awake_any _).mono ?_
      rintro e w1 ⟨rfl, hk⟩
      go_wp2
      go_ret
      exact ⟨rfl, hk.below (fun _ _ h => h)⟩
  · have h16 : 16 ≤ len0 := by omega
    have h1000 : len0 ≤ 1000 := by omega
    clear hlen
    obtain ⟨l, rfl, hr⟩ := w0.ex (by omega)
    clear w0
    obtain ⟨b, off, rfl, _⟩ := hr.cell 0 (by omega)
    go_enter Try.func4, Try.ntmps4
    go_wp2_with fail
    refine (awake_any _).mono ?_
    rintro e w1 ⟨rfl, hk⟩
    have hr1 := hr.kp hk (fun _ _ h => h)
    have hr2 := hr1.slice 0 16
    rw [List.drop_zero] at hr2
    go_wp2_with (go_at_call 14; refine (sum_n _ _ _ (l.take 16) _ hr2 (by simp; omega)).mono ?_; rintro e w' ⟨rfl, rfl⟩)
    clear hr1 hr2
    go_loopw [4, 5] (fun s i wr => ∃ k : Nat, 16 ≤ k ∧ k ≤ l.length ∧ i = .int .i64 k ∧ s = .int .u32 (sm ((l.drop (k - 16)).take 16)) ∧ Kp (fun _ => False) w wr) (fun _ i _ => l.length - (intOf i).toNat)
    case atStart => exact ⟨16, by omega, by omega, rfl, by simp, hk⟩
    case round =>
      obtain ⟨k, hk16, hkl, rfl, rfl, hk⟩ := hrel
      by_cases hlt : k < l.length
      · have hr1 := hr.kp hk (fun _ _ h => h)
        have hr2 := hr1.slice (k - 15) 16
        obtain ⟨_, _, e, hc1⟩ := hr1.cell k hlt
        cases e
        obtain ⟨_, _, e, hc2⟩ := hr1.cell (k - 16) (by omega)
        cases e
        have hb1 := hr.bd.getD k
        have hb2 := hr.bd.getD (k - 16)
        have hs := sm_bd ((l.drop (k - 16)).take 16)
        have H := Lib.hid (window_next l k hk16 hlt)
        generalize l.getD k 0 = c at *
        generalize l.getD (k - 16) 0 = d at *
        generalize hs1 : sm ((l.drop (k - 16)).take 16) = s at *
        clear hs1
        have H2 := Lib.hid hr2
        have H3 := Lib.hid hr1
        clear hr1 hr2
        have e5 : (k : Int) < l.length := by omega
        have e4 : (k : Int) - 16 < l.length := by omega
        have e2 : 16 ≤ (k : Int) := by omega
        have e3 : ((k : Int) - 16).toNat = k - 16 := by omega
        have e1 : IntKind.i64.wrap ((k : Int) - 16) = (k : Int) - 16 := IntWalk.i64_in _ (by omega)
        have HC := fun n => Calls.quiet_of_same (n := n) (Calls.turn (roll_any s d c (wr.drewN n) hb1.1 hb1.2 hb2.1 hb2.2 hs.1 hs.2))
        go_wp2_with fail
        go_quiet ((go_at_call 16; exact HC _))
        clear e1 e2 e3 e4
        go_wp2_with fail
        have e16 : k + 1 - (k - 15) = 16 := by omega
        refine (sum_n _ _ _ ((l.drop (k - 15)).take 16) _ (H2.out.drewN nq) (by simp; omega)).mono ?_
        rintro e w' ⟨rfl, rfl⟩
        rw [← H.out]
        have hk' := hk.drewN nq
        have HR : rl s d c = sm ((l.drop (k + 1 - 16)).take 16) := by rw [show k + 1 - 16 = k - 15 by omega]; exact H.out
        have HR' := Lib.hid HR
        clear HR hk H H2 e16
        go_wp2
        go_roundw
        case rel => exact ⟨k + 1, by omega, by omega, by go_num, by rw [HR'.out], hk'⟩
        case measure => simp [intOf]; omega
      · obtain rfl : k = l.length := by omega
        go_wp2
        go_ret
        exact ⟨rfl, hk.below (fun _ _ h => h)⟩
end Go.Proofs.Ytpliilaoahepbaa
