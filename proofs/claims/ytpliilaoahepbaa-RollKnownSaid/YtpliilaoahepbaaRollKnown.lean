/- The walk of RollKnown: it returns true. No condition. -/
import Derived.Test.YtpliilaoahepbaaRollL
import Derived.Test.YtpliilaoahepbaaRollI
namespace Go.Proofs.Ytpliilaoahepbaa
open Go.RowKit
set_option linter.unusedVariables false
theorem rollKnown_walk (w : World) :
    Calls Try.prog 10 #[] w fun e w' => e = .returned (.bool true) ∧ Below w.heap.size w w' := by
  have e0 : sm [] = 0 := rfl
  go_enter Try.func10, Try.ntmps10
  go_wp2_with fail
  refine (new_roll _).mono ?_
  rintro e w1 ⟨rfl, hra, hk⟩
  go_wp2_with (first | (go_at_call 14; refine (sum_n _ _ _ [] _ (RdB.nil _ _) rfl).mono ?_; rintro e w' ⟨rfl, rfl⟩) | (go_at_call 26; refine (full_roll _ [] _ hra).mono ?_; rintro e w' ⟨rfl, rfl⟩))
  go_loopw [2] (fun i wr => ∃ k : Nat, k ≤ 16 ∧ i = .int .i64 k ∧ RollAt wr w.heap.size (List.replicate k 0) ∧ Kp (fun _ => False) w wr) (fun i _ => 16 - (intOf i).toNat)
  case atStart => exact ⟨0, by omega, rfl, by simpa using hra, hk⟩
  case round =>
    obtain ⟨k, hkl, rfl, hra, hk⟩ := hrel
    by_cases hlt : k < 16
    · have hd : decide (16 ≤ k) = false := by simp; omega
      have hlen : (List.replicate k (0 : Int)).length = k := by simp
      go_wp2_with fail
      refine (full_roll _ _ _ hra).mono ?_
      rintro e w' ⟨rfl, rfl⟩
      rw [hlen, hd]
      go_wp2_with fail
      refine (push_roll _ _ 0 _ hra (by omega)).mono ?_
      rintro e w2 ⟨rfl, hra2, hk2⟩
      have hk3 := hk.then hk2 (fun i hi e => by omega)
      rw [← List.replicate_succ'] at hra2
      clear hra hk hk2
      go_wp2
      go_roundw
      case rel => exact ⟨k + 1, by omega, by go_num, hra2, hk3⟩
      case measure => simp [intOf]; omega
    · obtain rfl : k = 16 := by omega
      have he : rl (sm (List.replicate 16 0)) 0 0 = sm (List.replicate 16 0) := by decide
      have hl : last16 (List.replicate 16 0) = List.replicate 16 0 := by decide
      obtain ⟨w2, hr1, hat, hk2⟩ := run_make_at (P := Try.prog) wr Try.underlying22 elem_u8 .i64 .i64 16 16 16 rfl rfl (by omega) (by unfold maxLen; omega)
      rw [zeros_one _ rfl] at hat
      have hrd : RdB w2 (some ⟨wr.heap.size, 0, none⟩) (List.replicate 16 0) := RdB.of_at (pre := []) (post := []) (by simpa using hat) (fun x hx => by rw [List.eq_of_mem_replicate hx]; omega) (by simp)
      have hra2 := hra.kp hk2 (fun h => h)
      have hb := sm_bd (List.replicate 16 0)
      have HE := Lib.hid he
      have HL := Lib.hid hl
      clear he hl hat
      generalize hS : sm (List.replicate 16 0) = S at *
      have HS := Lib.hid hS
      clear hS
      go_wp2_with (go_at_call 14; refine (sum_n _ _ _ (List.replicate 16 0) _ hrd rfl).mono ?_; rintro e w' ⟨rfl, rfl⟩; rw [HS.out])
      refine (awake_any _).mono ?_
      rintro e w3 ⟨rfl, hk3⟩
      have hra3 := hra2.kp hk3 (fun h => h)
      have hfin := Lib.hid (((hk.trans hk2).trans hk3).below (fun _ _ h => h))
      clear hra hra2 hk hk2 hk3
      go_wp2_with (first | (go_at_call 26; refine (full_roll _ _ _ hra3).mono ?_; rintro e w' ⟨rfl, rfl⟩) | (go_at_call 25; refine (sum_roll _ _ _ hra3).mono ?_; rintro e w' ⟨rfl, rfl⟩; rw [HL.out, HS.out]) | (go_at_call 16; refine (roll_any _ _ _ _ (by omega) (by omega) (by omega) (by omega) hb.1 hb.2).mono ?_; rintro e w' ⟨rfl, rfl⟩; rw [HE.out]))
      go_ret
      exact ⟨rfl, hfin.out⟩
end Go.Proofs.Ytpliilaoahepbaa
