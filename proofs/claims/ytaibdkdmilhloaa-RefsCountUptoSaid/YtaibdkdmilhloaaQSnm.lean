/- sameNamed. (Written by wip/ref20o.py.) -/
import Derived.Test.YtaibdkdmilhloaaQNmM
import Derived.Test.YtaibdkdmilhloaaQRunL
namespace Go.Proofs.Ytaibdkdmilhloaa
open Go.RowKit
set_option linter.unusedVariables false
set_option linter.unusedSimpArgs false
set_option maxHeartbeats 1000000 in
set_option maxRecDepth 20000 in
theorem samenamed_eq (a a' : Option Addr) (n c c' : Nat) (l : List Nmd) (hn : n = l.length) (w : World) (h : RdN w a l) (h' : RdN w a' l) (hb : n ≤ 1000000) :
    Calls Try.prog 24 #[.slice a n c, .slice a' n c'] w fun e w' => e = .returned (.bool true) ∧ Kp (fun _ => False) w w' := by
  have H := Lib.hid (And.intro h (And.intro h' hn))
  clear h h' hn
  go_enter Try.func24, Try.ntmps24
  go_wp2
  go_loopw [5] (fun iv wr => ∃ k : Nat, k ≤ n ∧ iv = .int .i64 k ∧ Kp (fun _ => False) w wr) (fun iv _ => n - (intOf iv).toNat)
  case atStart => exact ⟨0, by omega, rfl, Kp.refl _ _⟩
  case round =>
    obtain ⟨k, hk, rfl, hkp⟩ := hrel
    have HP := Lib.hid hkp
    clear hkp
    by_cases hlt : k < n
    · have j1 : (k : Int) < n := by omega
      have hki : k < l.length := by rw [← H.out.2.2]; exact hlt
      obtain ⟨b, o, e1, r1⟩ := (H.out.1.kp0 HP.out).at' k hki
      obtain ⟨b', o', e2, r2⟩ := (H.out.2.1.kp0 HP.out).at' k hki
      subst e1 e2
      have hx16 := H.out.1.ids.nmn hki
      obtain ⟨⟨x, m⟩, hx⟩ : ∃ x, x = nmn l k := ⟨_, rfl⟩
      rw [← hx] at r1 r2 hx16
      have q1 := fun w' (k : Kp (fun _ => False) wr w') => load_nmd (rangeAt_kp r1 k (fun h => h)) hx16
      have q2 := fun w' (k : Kp (fun _ => False) wr w') => load_nmd (rangeAt_kp r2 k (fun h => h)) hx16
      have q3 := fun w' => eq_nmd hx16 m w'
      obtain ⟨VA, hVA⟩ : ∃ VA, VA = (nmW (x, m)).toArray := ⟨_, rfl⟩
      have e3 : nmV (x, m) = .agg VA := by rw [hVA]; rfl
      rw [e3] at q1 q2 q3
      have HL1 := Lib.hid q1
      have HL2 := Lib.hid q2
      have HQ := Lib.hid q3
      clear q1 q2 q3 e3 hVA hx hx16 hki r1 r2
      go_upto_region 6 with fail
      refine region_L (S := fun w' => Kp (fun _ => False) wr w') [] rfl ?_
      have hSd : ∀ (w' : World) (n' : Nat), Kp (fun _ => False) wr w' → Kp (fun _ => False) wr (w'.drewN n') := fun w' n' h => h.drewN n'
      have hS0 : Kp (fun _ => False) wr wr.drew := (Kp.refl _ wr).drew
      refine anyL_world (fun w' => Kp (fun _ => False) wr w') hS0 ?_
      clear hS0
      intro x0 kx0
      refine anyL_takeF (i := 0) (d := 17) (v := (.slice (some ⟨b, o, none⟩) n c)) rfl rfl (by kernel_rfl) (by kernel_rfl) (by kernel_rfl) (fun _ _ _ h => h) hSd (by kernel_rfl) (.inl (.inl ⟨rfl, fun w' hS => by first | rfl | go_simp⟩)) (fun _ => kx0) ?_
      try simp only [List.setIfInBounds_toArray, List.set_cons_succ, List.set_cons_zero]
      refine anyL_takeF (i := 1) (d := 18) (v := (.int .i64 (k : Nat))) rfl rfl (by kernel_rfl) (by kernel_rfl) (by kernel_rfl) (fun _ _ _ h => h) hSd (by kernel_rfl) (.inl (.inl ⟨rfl, fun w' hS => by first | rfl | go_simp⟩)) (fun _ => kx0) ?_
      try simp only [List.setIfInBounds_toArray, List.set_cons_succ, List.set_cons_zero]
      refine anyL_takeF (i := 2) (d := 19) (v := (.pointer (some ⟨b, o + k * 17, none⟩))) rfl rfl (by kernel_rfl) (by kernel_rfl) (by kernel_rfl) (fun _ _ _ h => h) hSd (by kernel_rfl) (.inl (.inl ⟨rfl, fun w' hS => by first | rfl | go_simp⟩)) (fun _ => kx0) ?_
      try simp only [List.setIfInBounds_toArray, List.set_cons_succ, List.set_cons_zero]
      refine anyL_takeD (i := 3) (d := 20) (v := (.agg VA)) rfl rfl (by kernel_rfl) (by kernel_rfl) (by kernel_rfl) (fun _ _ _ h => h) hSd (by kernel_rfl) (.inl (.inl ⟨rfl, fun w' hS => exec_load rfl rfl (HL1.out w' hS)⟩)) kx0 ?_
      try simp only [List.setIfInBounds_toArray, List.set_cons_succ, List.set_cons_zero]
      refine anyL_takeF (i := 4) (d := 21) (v := (.slice (some ⟨b', o', none⟩) n c')) rfl rfl (by kernel_rfl) (by kernel_rfl) (by kernel_rfl) (fun _ _ _ h => h) hSd (by kernel_rfl) (.inl (.inl ⟨rfl, fun w' hS => by first | rfl | go_simp⟩)) (fun _ => kx0) ?_
      try simp only [List.setIfInBounds_toArray, List.set_cons_succ, List.set_cons_zero]
      refine anyL_takeF (i := 5) (d := 22) (v := (.int .i64 (k : Nat))) rfl rfl (by kernel_rfl) (by kernel_rfl) (by kernel_rfl) (fun _ _ _ h => h) hSd (by kernel_rfl) (.inl (.inl ⟨rfl, fun w' hS => by first | rfl | go_simp⟩)) (fun _ => kx0) ?_
      try simp only [List.setIfInBounds_toArray, List.set_cons_succ, List.set_cons_zero]
      refine anyL_takeF (i := 6) (d := 23) (v := (.pointer (some ⟨b', o' + k * 17, none⟩))) rfl rfl (by kernel_rfl) (by kernel_rfl) (by kernel_rfl) (fun _ _ _ h => h) hSd (by kernel_rfl) (.inl (.inl ⟨rfl, fun w' hS => by first | rfl | go_simp⟩)) (fun _ => kx0) ?_
      try simp only [List.setIfInBounds_toArray, List.set_cons_succ, List.set_cons_zero]
      refine anyL_takeD (i := 7) (d := 24) (v := (.agg VA)) rfl rfl (by kernel_rfl) (by kernel_rfl) (by kernel_rfl) (fun _ _ _ h => h) hSd (by kernel_rfl) (.inl (.inl ⟨rfl, fun w' hS => exec_load rfl rfl (HL2.out w' hS)⟩)) kx0 ?_
      try simp only [List.setIfInBounds_toArray, List.set_cons_succ, List.set_cons_zero]
      refine anyL_takeF (i := 8) (d := 25) (v := (.bool false)) rfl rfl (by kernel_rfl) (by kernel_rfl) (by kernel_rfl) (fun _ _ _ h => h) hSd (by kernel_rfl) (.inl (.inl ⟨rfl, fun w' hS => exec_neq rfl rfl rfl (by kernel_rfl) (HQ.out w')⟩)) (fun _ => kx0) ?_
      try simp only [List.setIfInBounds_toArray, List.set_cons_succ, List.set_cons_zero]
      refine anyL_done (by kernel_rfl) (fun nn => ?_) _
      have kw9 := kx0.drewN nn
      generalize x0.drewN nn = w9 at *
      clear hSd HL1 HL2 HQ
      have K9 := Lib.hid kw9
      clear kw9
      go_wp2
      go_roundw
      case rel => exact ⟨k + 1, by omega, by go_num, HP.out.trans K9.out⟩
      case measure => simp [intOf]; omega
    · obtain rfl : k = n := by omega
      clear hlt
      go_wp2
      go_ret
      exact ⟨rfl, HP.out⟩
end Go.Proofs.Ytaibdkdmilhloaa
