/- The statement's own helper 'awake', and the reference's Last. -/
import Derived.Test.YtpliilaoahepbaaRollP
import Derived.Test.YtpliilaoahepbaaKit
namespace Go.Proofs.Ytpliilaoahepbaa
open Go.RowKit
set_option linter.unusedVariables false
theorem byt_zeros (n : Nat) : Byt (List.replicate n 0) := fun x hx => by
  rw [List.eq_of_mem_replicate hx]; omega
theorem awake_any (w : World) : Calls Try.prog 19 #[] w fun e w' => e = .returned (.bool true) ∧ Kp (fun _ => False) w w' := by
  have e0 : wt 0 = 2654435761 := by decide
  have e1 : wt 1 = 3668339987 := by decide
  have e2 : sm [0, 0] = 2027808452 := by decide
  have e3 : ps (List.replicate 16 0) 0 0 0 = 2654435761 := by decide
  have e4 : ps ((List.replicate 16 0).set (0 % 16) 0) (nx 0) 2654435761 0 = 2027808452 := by decide
  go_enter Try.func19, Try.ntmps19
  go_wp2_with fail
  refine (new_any _).mono ?_
  rintro e w1 ⟨rfl, hat, hk⟩
  have K := Lib.hid (hat.alloc (.cells #[.int .u8 0, .int .u8 0] 5))
  have K' := Lib.hid (hk.alloc (.cells #[.int .u8 0, .int .u8 0] 5))
  have hrd : RdB (w1.alloc (.cells #[.int .u8 0, .int .u8 0] 5)) (some ⟨w1.heap.size, 0, none⟩) [0, 0] :=
    RdB.of_at (pre := []) (post := []) (At.new w1 [.int .u8 0, .int .u8 0] _) (fun x hx => by simp at hx; omega) (by simp)
  have H0 := Lib.hid e3
  have H1 := Lib.hid e4
  clear hat hk e3 e4
  go_wp2_with (first | (go_at_call 12; refine (weight_any _ _ (by omega) (by omega)).mono ?_; rintro e w' ⟨rfl, rfl⟩) | (go_at_call 14; refine (sum_n _ _ _ [0, 0] _ hrd rfl).mono ?_; rintro e w' ⟨rfl, rfl⟩))
  refine (push_at w.heap.size (List.replicate 16 0) 0 0 0 _ K.out rfl (by omega) (by omega) (by omega) (by omega) (by omega) (byt_zeros 16)).mono ?_
  rintro e w2 ⟨rfl, hat2, hk2⟩
  rw [H0.out] at hat2
  have K2 := Lib.hid hat2
  have K3 := Lib.hid (K'.out.then hk2 (fun i hi e => by omega))
  have e3 := H0.out
  clear K K' hat2 hk2
  go_wp2_with fail
  refine (push_at w.heap.size ((List.replicate 16 0).set (0 % 16) 0) (nx 0) 2654435761 0 _ K2.out (by simp) (by decide) (by omega) (by omega) (by omega) (by omega) (byt_zeros 16)).mono ?_
  rintro e w3 ⟨rfl, _, hk3⟩
  have K4 := Lib.hid (K3.out.then hk3 (fun i hi e => by omega))
  have e4 := H1.out
  clear K2 K3 hk3
  go_wp2
  go_ret
  exact ⟨rfl, K4.out⟩
theorem last_le (a : Option Addr) (n cap : Nat) (w : World) (hn : n ≤ 16) :
    Calls Try.prog 23 #[.slice a n cap] w fun e w' => e = .returned (.slice a n cap) ∧ w = w' := by
  go_enter Try.func23, Try.ntmps23
  go_wp2
  go_ret
  exact ⟨rfl, rfl⟩
theorem last_gt (b off n cap : Nat) (w : World) (hn : 16 < n) (h : n ≤ cap) (hc : cap ≤ maxLen) :
    Calls Try.prog 23 #[.slice (some ⟨b, off, none⟩) n cap] w fun e w' => e = .returned (.slice (some ⟨b, off + (n - 16), none⟩) 16 (cap - (n - 16))) ∧ w = w' := by
  unfold maxLen at hc
  go_enter Try.func23, Try.ntmps23
  go_wp2
  go_ret
  exact ⟨by simp; omega, rfl⟩
end Go.Proofs.Ytpliilaoahepbaa
