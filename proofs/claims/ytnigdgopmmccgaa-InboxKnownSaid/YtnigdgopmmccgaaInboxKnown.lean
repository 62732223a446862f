/- The walk of InboxKnown: it returns true. No condition. -/
import Derived.Test.YtnigdgopmmccgaaInbA
import Derived.Test.YtnigdgopmmccgaaOpen
namespace Go.Proofs.Ytnigdgopmmccgaa
open Go.RowKit
set_option linter.unusedVariables false
theorem inboxKnown_walk (w : World) :
    Calls Try.prog 8 #[] w fun e w' => e = .returned (.bool true) ∧ Below w.heap.size w w' := by
  have kc := fun (w : World) (C : Array Value) (n c : Nat) => Lib.run_convert_bytes_const (P := Try.prog) w 31 5 C n c Try.underlying31 Try.underlying5
  go_enter Try.func8, Try.ntmps8
  go_wp2_with fail
  refine (two_any w).mono ?_
  rintro e w1 ⟨F, rfl, hat, hF, hk⟩
  go_wp2_with fail
  refine (inew_bad 0 _ (by omega)).mono ?_
  rintro e w1' ⟨rfl, rfl⟩
  go_wp2_with fail
  have T := take_ok (hat.alloc (.cells #[.int .u8 97] 5 (1, 2))) 1 (some ⟨w1.heap.size, 0, none⟩) 1 [97] (rdb_mark w1 [97] (fun x hx => by simp at hx; omega) (by simp) _ _) (by simp) (by omega) (by omega) (by omega) rfl
  rw [show ((1 : Nat) : Int) = 1 from rfl] at T
  refine T.mono ?_
  rintro e w2 ⟨n', hd', F', v, vs, rfl, k1, k2, k3, k4, k5, k6, k7, k8, k9⟩
  obtain rfl : n' = 3 := by
    have h1 := k4.next_le (k := 3) (by omega) rfl
    have h2 := k4.2
    rcases Nat.lt_or_ge n' 3 with h3 | h3
    · have : n' = 1 ∨ n' = 2 := by omega
      rcases this with rfl | rfl
      · cases h2
      · cases h2
    · omega
  obtain rfl : hd' = 0 := k4.cnt
  have hK2 : Kp (fun _ => False) w w2 := (hk.alloc _).then k9 (fun i hi e => by omega)
  have HK2 := Lib.hid hK2
  have H4 := Lib.hid k4
  clear T hat hk k1 k2 k3 k5 k6 k7 k8 k9 hK2 hF k4
  go_wp2_with fail
  have T := take_there (H4.out.alloc (.cells #[.int .u8 97] 5 (1, 2))) 1 (some ⟨w2.heap.size, 0, none⟩) 1 1 (by omega) (by omega) rfl
  rw [show ((1 : Nat) : Int) = 1 from rfl] at T
  refine T.mono ?_
  rintro e w3 ⟨rfl, k3⟩
  have H5 := Lib.hid ((H4.out.alloc (.cells #[.int .u8 97] 5 (1, 2))).kp k3 (fun _ _ h => h))
  have HK3 := Lib.hid ((HK2.out.alloc (.cells #[.int .u8 97] 5 (1, 2))).trans k3)
  clear T H4 HK2 k3
  go_wp2_with fail
  refine (take_range (H5.out.alloc (.cells #[.int .u8 97] 5 (1, 2))) 0 (some ⟨w3.heap.size, 0, none⟩) 1 1 (by omega)).mono ?_
  rintro e w4 ⟨rfl, k4⟩
  have H6 := Lib.hid ((H5.out.alloc (.cells #[.int .u8 97] 5 (1, 2))).kp k4 (fun _ _ h => h))
  have HK4 := Lib.hid ((HK3.out.alloc (.cells #[.int .u8 97] 5 (1, 2))).trans k4)
  clear H5 HK3 k4
  go_wp2_with fail
  refine (awake_any _).mono ?_
  rintro e w5 ⟨rfl, k5⟩
  have H7 := H6.out.kp k5 (fun _ _ h => h)
  obtain ⟨⟨c, H8⟩, H9⟩ := H7
  have D1 := Lib.hid (H8.hasSpec H9 1 (by omega))
  have HC := Lib.hid H8
  have HN := Lib.hid H9
  have HK5 := Lib.hid (HK4.out.trans k5)
  clear H6 HK4 k5 H8 H9
  go_wp2_with fail
  refine D1.out.mono ?_
  rintro e w6 ⟨rfl, m, rfl⟩
  have e1 : hasI (put f2 1 [97]) 1 = true := rfl
  have e2 : hasI (put f2 1 [97]) 3 = false := rfl
  have hk6 : Kp (fun _ => False) w5 (w5.drewN m) := (Kp.refl _ _).drewN m
  have H8 := HC.out.kp hk6 (fun _ _ h => h)
  have D2 := Lib.hid (H8.hasSpec HN.out 3 (by omega))
  rw [e1]
  clear H8 hk6
  go_wp2_with fail
  refine D2.out.mono ?_
  rintro e w7 ⟨rfl, m2, rfl⟩
  rw [e2]
  have hk7 : Kp (fun _ => False) w5 (w5.drewN (m + m2)) := (Kp.refl _ _).drewN _
  have D3 := Lib.hid ((HC.out.kp hk7 (fun _ _ h => h)).held)
  go_wp2_with fail
  refine D3.out.mono ?_
  rintro e w8 ⟨rfl, rfl⟩
  have hfin := Lib.hid ((HK5.out.trans hk7).below (fun _ _ h => h))
  clear hk7
  go_wp2
  go_ret
  exact ⟨rfl, hfin.out⟩
end Go.Proofs.Ytnigdgopmmccgaa
