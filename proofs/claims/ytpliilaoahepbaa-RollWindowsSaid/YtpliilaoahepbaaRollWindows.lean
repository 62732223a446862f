/- The walk of RollWindows: it returns true, whatever comes in. No condition. -/
import Derived.Test.YtpliilaoahepbaaRollSums
import Derived.Test.YtpliilaoahepbaaRollI
namespace Go.Proofs.Ytpliilaoahepbaa
open Go.RowKit
set_option linter.unusedVariables false
theorem take_pred_snoc (l : List Int) (k : Nat) (h0 : 0 < k) (hk : k ≤ l.length) : l.take (k - 1) ++ [l.getD (k - 1) 0] = l.take k := by
  have := take_snoc l 0 (k - 1) (by omega)
  rw [show k - 1 + 1 = k by omega] at this
  exact this.symm
theorem last16_take (l : List Int) (k : Nat) (hk : k ≤ l.length) : last16 (l.take k) = (l.drop (k - 16)).take (k - (k - 16)) := by
  unfold last16
  rw [List.length_take, Nat.min_eq_left hk, List.drop_take]

theorem rollWindows_walk (a0 : Option Addr) (len0 cap0 : Nat) (z0 : List Int) (w : World) (w0 : IsRow .u8 w a0 len0 cap0 z0) :
    Calls Try.prog 7 #[.slice a0 len0 cap0] w fun e w' => e = .returned (.bool true) ∧ Below w.heap.size w w' := by
  have hle := w0.le
  have hcap : cap0 ≤ maxLen := by rcases w0 with ⟨rfl, rfl, rfl, rfl⟩ | ⟨y, rfl, h1, h2, h3, h4, h5⟩; simp; exact h2
  unfold maxLen at hle hcap
  by_cases hlen : 1000 < len0
  · clear w0
    go_enter Try.func7, Try.ntmps7
    go_wp2_with fail
    refine (new_roll _).mono ?_
    rintro e w1 ⟨rfl, _, hk⟩
    go_wp2
    go_ret
    exact ⟨rfl, hk.below (fun _ _ h => h)⟩
  · obtain ⟨l, rfl, hr⟩ := w0.ex (by omega)
    clear w0
    go_enter Try.func7, Try.ntmps7
    go_wp2_with fail
    refine (new_roll _).mono ?_
    rintro e w1 ⟨rfl, hra, hk⟩
    go_wp2_with fail
    go_loopw [4] (fun i wr => ∃ k : Nat, k ≤ l.length + 1 ∧ i = .int .i64 k ∧ RollAt wr w.heap.size (l.take (k - 1)) ∧ Kp (fun _ => False) w wr) (fun i _ => l.length + 1 - (intOf i).toNat)
    case atStart => exact ⟨0, by omega, rfl, by simpa using hra, hk⟩
    case round =>
      obtain ⟨k, hkl, rfl, hra, hk⟩ := hrel
      by_cases hlt : k ≤ l.length
      · have hr1 := hr.kp hk (fun _ _ h => h)
        have hd := hr.bd.getD (k - 1)
        have HT := fun h => Lib.hid (take_pred_snoc l k h hlt)
        have hlenk : (l.take k).length = k := by simp; omega
        have hlenk' : (l.take (k - 1)).length = k - 1 := by simp; omega
        have hb := sm_bd (last16 (l.take k))
        have hdec : decide (16 ≤ k) = decide ((16 : Int) ≤ (k : Int)) := decide_eq_decide.2 (by omega)
        by_cases h16 : 16 < k
        · obtain ⟨b, off, rfl, _⟩ := hr.cell 0 (by omega)
          have hr2 := hr1.slice (k - 16) 16
          obtain ⟨_, _, e, hc⟩ := hr1.cell (k - 1) (by omega)
          cases e
          have e1 : (l.drop (k - 16)).take 16 = last16 (l.take k) := by rw [last16_take l k hlt, show k - (k - 16) = 16 by omega]
          rw [e1] at hr2
          have hlen : (last16 (l.take k)).length = 16 := last16_len _ (by simp; omega)
          have HT' := HT (by omega)
          have hk1 : 1 ≤ k := by omega
          clear e1 HT
          generalize l.getD (k - 1) 0 = c at *
          go_wp2_with fail
          refine (last_gt b off k cap0 wr h16 (by omega) (by unfold maxLen; omega)).mono ?_
          rintro e w' ⟨rfl, rfl⟩
          go_wp2_with (go_at_call 15; refine (rsum_n _ _ _ _ _ hr2 hlen).mono ?_; rintro e w' ⟨rfl, rfl⟩)
          refine (push_roll _ _ c _ hra hd).mono ?_
          rintro e w4 ⟨rfl, hra4, hk4⟩
          rw [HT'.out] at hra4 ⊢
          have hk5 := hk.then hk4 (fun i hi e => by omega)
          clear hra hk hk4 hr1 hr2 hc
          go_wp2_with (first | (go_at_call 26; refine (full_roll _ _ _ hra4).mono ?_; rintro e w' ⟨rfl, rfl⟩; rw [hlenk]) | (go_at_call 25; refine (sum_roll _ _ _ hra4).mono ?_; rintro e w' ⟨rfl, rfl⟩))
          go_roundw
          case rel => exact ⟨k + 1, by omega, by go_num, by simpa using hra4, hk5⟩
          case measure => simp [intOf]; omega
        · have h16' : k ≤ 16 := by omega
          have hs16 : last16 (l.take k) = l.take k := last16_short _ (by omega)
          have hr2 : RdB wr a0 (l.take k) := ⟨fun i hi => by
            obtain ⟨b, off, e, hc⟩ := hr1.cell i (by simp at hi; omega)
            refine ⟨b, off, e, ?_⟩
            rw [hc]
            have hi' : i < k := by simp at hi; omega
            simp [List.getD_eq_getElem?_getD, hi'], hr.bd.take k, by simp; omega⟩
          by_cases hk0 : k = 0
          · subst hk0
            go_wp2_with fail
            refine (last_le a0 _ cap0 wr (by omega)).mono ?_
            rintro e w' ⟨rfl, rfl⟩
            go_wp2_with (first | (go_at_call 15; refine (rsum_n _ _ _ _ _ hr2 (by simp)).mono ?_; rintro e w' ⟨rfl, rfl⟩) | (go_at_call 26; refine (full_roll _ _ _ hra).mono ?_; rintro e w' ⟨rfl, rfl⟩) | (go_at_call 25; refine (sum_roll _ _ _ hra).mono ?_; rintro e w' ⟨rfl, rfl⟩))
            go_roundw
            case rel => exact ⟨1, by omega, rfl, hra, hk⟩
            case measure => simp [intOf]
          · obtain ⟨b, off, rfl, _⟩ := hr.cell 0 (by omega)
            obtain ⟨_, _, e, hc⟩ := hr1.cell (k - 1) (by omega)
            cases e
            have hk1 : 1 ≤ k := by omega
            have hk0' : 0 < k := by omega
            have HT' := HT (by omega)
            rw [hs16] at hb
            clear hk0 HT
            generalize l.getD (k - 1) 0 = c at *
            go_wp2_with fail
            refine (last_le _ k cap0 wr h16').mono ?_
            rintro e w' ⟨rfl, rfl⟩
            go_wp2_with (go_at_call 15; refine (rsum_n _ _ _ _ _ hr2 hlenk).mono ?_; rintro e w' ⟨rfl, rfl⟩)
            refine (push_roll _ _ c _ hra hd).mono ?_
            rintro e w4 ⟨rfl, hra4, hk4⟩
            rw [HT'.out] at hra4 ⊢
            rw [hs16]
            have hk5 := hk.then hk4 (fun i hi e => by omega)
            clear hra hk hk4 hr1 hr2 hc
            go_wp2_with (first | (go_at_call 26; refine (full_roll _ _ _ hra4).mono ?_; rintro e w' ⟨rfl, rfl⟩; rw [hlenk]) | (go_at_call 25; refine (sum_roll _ _ _ hra4).mono ?_; rintro e w' ⟨rfl, rfl⟩; rw [hs16]))
            go_roundw
            case rel => exact ⟨k + 1, by omega, by go_num, by simpa using hra4, hk5⟩
            case measure => simp [intOf]; omega
      · go_wp2_with fail
        refine (awake_any _).mono ?_
        rintro e w2 ⟨rfl, hk2⟩
        go_wp2
        go_ret
        exact ⟨rfl, (hk.trans hk2).below (fun _ _ h => h)⟩
end Go.Proofs.Ytpliilaoahepbaa
