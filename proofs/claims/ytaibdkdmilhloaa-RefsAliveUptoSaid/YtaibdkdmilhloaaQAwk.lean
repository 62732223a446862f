/- The statements' awake. (Written by wip/ref20l.py.) -/
import Derived.Test.YtaibdkdmilhloaaQAwP
namespace Go.Proofs.Ytaibdkdmilhloaa
open Go.RowKit
set_option linter.unusedVariables false
set_option linter.unusedSimpArgs false
set_option maxHeartbeats 4000000 in
set_option maxRecDepth 20000 in
theorem awake_any (w : World) : Calls Try.prog 15 #[] w fun e w' => e = .returned (.bool true) ∧ Kp (fun _ => False) w w' := by
  obtain ⟨IA, hIA⟩ : ∃ IA, IA = idB (idk 1) := ⟨_, rfl⟩
  obtain ⟨IB, hIB⟩ : ∃ IB, IB = idB (idk 2) := ⟨_, rfl⟩
  obtain ⟨IC, hIC⟩ : ∃ IC, IC = idB (idk 3) := ⟨_, rfl⟩
  have ca := fun w' => a_any w'
  have cb := fun w' => b_any w'
  have cc := fun w' => c_any w'
  have h3 := fun w' => bs3 w'
  have h2 := fun w' => bs2 (idk 2) (idk 3) rfl rfl w'
  simp only [idV_B] at ca cb cc h3 h2
  rw [← hIA] at ca h3
  rw [← hIB] at cb h3 h2
  rw [← hIC] at cc h2
  have CA := Lib.hid ca
  have CB := Lib.hid cb
  have CC := Lib.hid cc
  have H3 := Lib.hid h3
  have H2 := Lib.hid h2
  have h2' := fun w' => bs2 (idk 1) (idk 3) rfl rfl w'
  have h1' := fun w' => bs_one (x := idk 2) rfl w'
  simp only [idV_B] at h2' h1'
  rw [← hIA, ← hIC] at h2'
  rw [← hIB] at h1'
  have H2' := Lib.hid h2'
  have H1' := Lib.hid h1'
  have HI := Lib.hid (And.intro hIA (And.intro hIB hIC))
  clear ca cb cc h3 h2 h2' h1' hIA hIB hIC
  go_enter Try.func15, Try.ntmps15
  go_wp2_with fail
  go_at_call 30
  (with_reducible refine (CA.out _).mono ?_)
  rintro e w1 ⟨rfl, kw1⟩
  have Kw1 := Lib.hid kw1
  clear kw1
  go_wp2_with fail
  go_at_call 31
  (with_reducible refine (CB.out _).mono ?_)
  rintro e w2 ⟨rfl, kw2⟩
  have Kw2 := Lib.hid kw2
  clear kw2
  go_wp2_with fail
  go_at_call 30
  (with_reducible refine (CA.out _).mono ?_)
  rintro e w3 ⟨rfl, kw3⟩
  have Kw3 := Lib.hid kw3
  clear kw3
  go_wp2_with (refine wpList_buildSlice_run (ps := #[(0, .agg IA), (1, .agg IB), (2, .agg IA)]) rfl rfl rfl (H3.out _) ?_)
  go_at_call 29
  refine (of_any _ _ _ _).mono ?_
  rintro e w4 ⟨i1, p1, t1, rfl, a1, hi1, k4⟩
  have K4 := Lib.hid (And.intro a1 (And.intro hi1 k4))
  clear a1 hi1 k4
  go_wp2_with fail
  go_at_call 31
  (with_reducible refine (CB.out _).mono ?_)
  rintro e w5 ⟨rfl, kw5⟩
  have Kw5 := Lib.hid kw5
  clear kw5
  go_wp2_with fail
  go_at_call 32
  (with_reducible refine (CC.out _).mono ?_)
  rintro e w6 ⟨rfl, kw6⟩
  have Kw6 := Lib.hid kw6
  clear kw6
  go_wp2_with (refine wpList_buildSlice_run (ps := #[(0, .agg IB), (1, .agg IC)]) rfl rfl rfl (H2.out _) ?_)
  go_at_call 29
  refine (of_any _ _ _ _).mono ?_
  rintro e w7 ⟨i2, p2, t2, rfl, a2, hi2, k7⟩
  have K7 := Lib.hid (And.intro a2 (And.intro hi2 k7))
  clear a2 hi2 k7
  go_upto_region 2 with fail
  refine wp_world (fun wx => RdM wx (some ⟨w7.heap.size, 0, none⟩) msA ∧ Kp (fun _ => False) w wx) ?_ ?_
  · have ka := (Kp.refl (fun _ => False) w3).alloc (.cells (idC [idk 1, idk 2, idk 1]).toArray 41)
    have kb := (Kp.refl (fun _ => False) w6).alloc (.cells (idC [idk 2, idk 3]).toArray 41)
    have k67 := kb.trans K7.out.2.2
    have k47 := (Kw5.out.trans Kw6.out).trans k67
    have k8 := (Kp.refl (fun _ => False) w7).alloc (.cells #[.int .i64 0, .int .i64 0, .int .i64 0, .int .i64 0, .slice (some ⟨i1, 0, none⟩) 1 1, .int .i64 0, .int .i64 0, .int .i64 0, .int .i64 0, .slice (some ⟨i2, 0, none⟩) 1 1] 54)
    have r1 := ((((rdi_new (l := [idk 1, idk 2, idk 1]) (by intro x hx; simp at hx; rcases hx with rfl | rfl | rfl <;> rfl) w3 41).kp0 K4.out.2.2).kp0 k47).kp0 k8)
    have r2 := (((rdi_new (l := [idk 2, idk 3]) (by intro x hx; simp at hx; rcases hx with rfl | rfl <;> rfl) w6 41).kp0 K7.out.2.2).kp0 k8)
    have A1 := k8.at (k47.at K4.out.1 (fun h => h)) (fun h => h)
    have A2 := k8.at K7.out.1 (fun h => h)
    have A3 := At.new w7 [.int .i64 0, .int .i64 0, .int .i64 0, .int .i64 0, .slice (some ⟨i1, 0, none⟩) 1 1, .int .i64 0, .int .i64 0, .int .i64 0, .int .i64 0, .slice (some ⟨i2, 0, none⟩) 1 1] 54
    refine ⟨fun i hi => ?_, ((((((Kw1.out.trans Kw2.out).trans Kw3.out).trans ka).trans K4.out.2.2).trans k47).trans k8)⟩
    have hi : i < 2 := hi
    rcases (by omega : i = 0 ∨ i = 1) with rfl | rfl
    · refine ⟨w7.heap.size, 0, 0, 0, 0, 0, some ⟨i1, 0, none⟩, 1, rfl, A3.cell 0, A3.cell 1, A3.cell 2, A3.cell 3, A3.cell 4, fun j hj => ?_, by decide, by decide⟩
      have hj : j < 1 := hj
      obtain rfl : j = 0 := by omega
      exact ⟨i1, 0, p1, 0, 0, 0, t1, some ⟨w3.heap.size, 0, none⟩, 3, rfl, A1.cell 0, A1.cell 1, A1.cell 2, A1.cell 3, A1.cell 4, A1.cell 5, r1, by decide, by decide⟩
    · refine ⟨w7.heap.size, 0, 0, 0, 0, 0, some ⟨i2, 0, none⟩, 1, rfl, A3.cell 5, A3.cell 6, A3.cell 7, A3.cell 8, A3.cell 9, fun j hj => ?_, by decide, by decide⟩
      have hj : j < 1 := hj
      obtain rfl : j = 0 := by omega
      exact ⟨i2, 0, p2, 0, 0, 0, t2, some ⟨w6.heap.size, 0, none⟩, 2, rfl, A2.cell 0, A2.cell 1, A2.cell 2, A2.cell 3, A2.cell 4, A2.cell 5, r2, by decide, by decide⟩
  rintro w8 ⟨hm8, k8⟩
  obtain ⟨bm, hbm⟩ : ∃ bm, bm = w7.heap.size := ⟨_, rfl⟩
  rw [← hbm] at hm8 ⊢
  clear hbm
  have H8 := Lib.hid (And.intro hm8 k8)
  clear hm8 k8
  go_wp2_with fail
  go_at_call 18
  refine (count_any (some ⟨bm, 0, none⟩) 2 2 msA w8 rfl H8.out.1 (by decide)).mono ?_
  rintro e w9 ⟨v9, rfl, hn9, hg9, k9⟩
  obtain ⟨a9, c9, rfl, hr9, hc9⟩ := hn9.form
  have hcl : (cntL (allI msA)).length = 3 := by decide
  rw [hcl] at hc9 ⊢
  have H9 := Lib.hid (And.intro hr9 k9)
  clear hn9 hg9 k9 hcl hr9
  go_upto_region 3 with fail
  obtain ⟨b9, o9, e9, h90⟩ := H9.out.1.at' 0 (by decide)
  obtain ⟨b9', o9', e9', h92⟩ := H9.out.1.at' 2 (by decide)
  subst e9
  cases e9'
  rw [show nmn (cntL (allI msA)) 0 = (idk 1, 2) by decide] at h90
  rw [show nmn (cntL (allI msA)) 2 = (idk 3, 1) by decide] at h92
  have l0 := fun w' (k : Kp (fun _ => False) w9 w') => load_nmd (rangeAt_kp h90 k (fun h => h)) (show (idk 1).length = 16 from rfl)
  have l2 := fun w' (k : Kp (fun _ => False) w9 w') => load_nmd (rangeAt_kp h92 k (fun h => h)) (show (idk 3).length = 16 from rfl)
  have q0 := fun w' => eq_nmd (x := idk 1) rfl 2 w'
  have q2 := fun w' => eq_nmd (x := idk 3) rfl 1 w'
  have b0 := fun w' => build_nmd (x := idk 1) rfl 2 w'
  have b2 := fun w' => build_nmd (x := idk 3) rfl 1 w'
  simp only [idV_B] at b0 b2
  rw [← HI.out.1] at b0
  rw [← HI.out.2.2] at b2
  obtain ⟨N0, hN0⟩ : ∃ N0, N0 = (nmW (idk 1, 2)).toArray := ⟨_, rfl⟩
  obtain ⟨N2, hN2⟩ : ∃ N2, N2 = (nmW (idk 3, 1)).toArray := ⟨_, rfl⟩
  have e0 : nmV (idk 1, 2) = .agg N0 := by rw [hN0]; rfl
  have e2 : nmV (idk 3, 1) = .agg N2 := by rw [hN2]; rfl
  rw [e0] at l0 q0 b0
  rw [e2] at l2 q2 b2
  rw [Nat.zero_mul, Nat.add_zero] at l0
  have L0 := Lib.hid l0
  have L2 := Lib.hid l2
  have Q0 := Lib.hid q0
  have Q2 := Lib.hid q2
  have B0 := Lib.hid b0
  have B2 := Lib.hid b2
  clear l0 l2 q0 q2 b0 b2 e0 e2 hN0 hN2 h90 h92
  refine region_L (S := fun w' => Kp (fun _ => False) w9 w') [] rfl ?_
  have hSd : ∀ (w' : World) (n' : Nat), Kp (fun _ => False) w9 w' → Kp (fun _ => False) w9 (w'.drewN n') := fun w' n' h => h.drewN n'
  have hS0 : Kp (fun _ => False) w9 w9.drew := (Kp.refl _ w9).drew
  refine anyL_world (fun w' => Kp (fun _ => False) w9 w') hS0 ?_
  clear hS0
  intro x0 hS1
  refine anyL_takeF (i := 0) (d := 15) (v := (.slice (some ⟨b9, o9, none⟩) 3 c9)) rfl rfl (by kernel_rfl) (by kernel_rfl) (by kernel_rfl) (fun _ _ _ h => h) hSd (by kernel_rfl) (.inl (.inl ⟨rfl, fun w' hS => by go_simp⟩)) (fun _ => hS1) ?_
  try simp only [List.setIfInBounds_toArray, List.set_cons_succ, List.set_cons_zero]
  refine anyL_takeF (i := 1) (d := 16) (v := (.int .i64 3)) rfl rfl (by kernel_rfl) (by kernel_rfl) (by kernel_rfl) (fun _ _ _ h => h) hSd (by kernel_rfl) (.inl (.inl ⟨rfl, fun w' hS => by go_simp⟩)) (fun _ => hS1) ?_
  try simp only [List.setIfInBounds_toArray, List.set_cons_succ, List.set_cons_zero]
  refine anyL_takeF (i := 2) (d := 17) (v := (.bool true)) rfl rfl (by kernel_rfl) (by kernel_rfl) (by kernel_rfl) (fun _ _ _ h => h) hSd (by kernel_rfl) (.inl (.inl ⟨rfl, fun w' hS => by go_simp⟩)) (fun _ => hS1) ?_
  try simp only [List.setIfInBounds_toArray, List.set_cons_succ, List.set_cons_zero]
  refine anyL_takeF (i := 3) (d := 18) (v := (.bool true)) rfl rfl (by kernel_rfl) (by kernel_rfl) (by kernel_rfl) (fun _ _ _ h => h) hSd (by kernel_rfl) (.inl (.inl ⟨rfl, fun w' hS => by go_simp⟩)) (fun _ => hS1) ?_
  try simp only [List.setIfInBounds_toArray, List.set_cons_succ, List.set_cons_zero]
  refine anyL_takeF (i := 4) (d := 19) (v := (.slice (some ⟨b9, o9, none⟩) 3 c9)) rfl rfl (by kernel_rfl) (by kernel_rfl) (by kernel_rfl) (fun _ _ _ h => h) hSd (by kernel_rfl) (.inl (.inl ⟨rfl, fun w' hS => by go_simp⟩)) (fun _ => hS1) ?_
  try simp only [List.setIfInBounds_toArray, List.set_cons_succ, List.set_cons_zero]
  refine anyL_takeF (i := 5) (d := 20) (v := (.pointer (some ⟨b9, o9, none⟩))) rfl rfl (by kernel_rfl) (by kernel_rfl) (by kernel_rfl) (fun _ _ _ h => h) hSd (by kernel_rfl) (.inl (.inl ⟨rfl, fun w' hS => by go_simp⟩)) (fun _ => hS1) ?_
  try simp only [List.setIfInBounds_toArray, List.set_cons_succ, List.set_cons_zero]
  refine anyL_takeD (i := 6) (d := 21) (v := (.agg N0)) rfl rfl (by kernel_rfl) (by kernel_rfl) (by kernel_rfl) (fun _ _ _ h => h) hSd (by kernel_rfl) (.inl (.inl ⟨rfl, fun w' hS => exec_load rfl rfl (L0.out w' hS)⟩)) hS1 ?_
  try simp only [List.setIfInBounds_toArray, List.set_cons_succ, List.set_cons_zero]
  refine anyL_all (rs := [7]) (by kernel_rfl) (by simp) ?_
  intro n7 i hi
  simp only [List.mem_cons, List.not_mem_nil, or_false] at hi
  obtain rfl := hi
  refine wpOp_of rfl rfl ?_
  go_simp
  refine Calls.mono (CA.out _) ?_
  rintro e x1 ⟨rfl, jx1⟩
  try dsimp only
  have kx1 : Kp (fun _ => False) w9 x1 := (hS1.drewN _).trans jx1
  refine ⟨fun _ => kx1, ?_⟩
  try simp only [List.setIfInBounds_toArray, List.set_cons_succ, List.set_cons_zero]
  refine anyL_takeF (i := 8) (d := 23) (v := (.agg N0)) rfl rfl (by kernel_rfl) (by kernel_rfl) (by kernel_rfl) (fun _ _ _ h => h) hSd (by kernel_rfl) (.inl (.inl ⟨rfl, fun w' hS => exec_build rfl rfl (B0.out w')⟩)) (fun _ => kx1) ?_
  try simp only [List.setIfInBounds_toArray, List.set_cons_succ, List.set_cons_zero]
  refine anyL_takeF (i := 9) (d := 24) (v := (.bool true)) rfl rfl (by kernel_rfl) (by kernel_rfl) (by kernel_rfl) (fun _ _ _ h => h) hSd (by kernel_rfl) (.inl (.inl ⟨rfl, fun w' hS => exec_eql rfl rfl rfl (by kernel_rfl) (Q0.out w')⟩)) (fun _ => kx1) ?_
  try simp only [List.setIfInBounds_toArray, List.set_cons_succ, List.set_cons_zero]
  refine anyL_takeF (i := 10) (d := 25) (v := (.bool true)) rfl rfl (by kernel_rfl) (by kernel_rfl) (by kernel_rfl) (fun _ _ _ h => h) hSd (by kernel_rfl) (.inl (.inl ⟨rfl, fun w' hS => by go_simp⟩)) (fun _ => kx1) ?_
  try simp only [List.setIfInBounds_toArray, List.set_cons_succ, List.set_cons_zero]
  refine anyL_takeF (i := 11) (d := 26) (v := (.bool true)) rfl rfl (by kernel_rfl) (by kernel_rfl) (by kernel_rfl) (fun _ _ _ h => h) hSd (by kernel_rfl) (.inl (.inl ⟨rfl, fun w' hS => by go_simp⟩)) (fun _ => kx1) ?_
  try simp only [List.setIfInBounds_toArray, List.set_cons_succ, List.set_cons_zero]
  refine anyL_takeF (i := 12) (d := 27) (v := (.slice (some ⟨b9, o9, none⟩) 3 c9)) rfl rfl (by kernel_rfl) (by kernel_rfl) (by kernel_rfl) (fun _ _ _ h => h) hSd (by kernel_rfl) (.inl (.inl ⟨rfl, fun w' hS => by go_simp⟩)) (fun _ => kx1) ?_
  try simp only [List.setIfInBounds_toArray, List.set_cons_succ, List.set_cons_zero]
  refine anyL_takeF (i := 13) (d := 28) (v := (.pointer (some ⟨b9, o9 + 34, none⟩))) rfl rfl (by kernel_rfl) (by kernel_rfl) (by kernel_rfl) (fun _ _ _ h => h) hSd (by kernel_rfl) (.inl (.inl ⟨rfl, fun w' hS => by go_simp⟩)) (fun _ => kx1) ?_
  try simp only [List.setIfInBounds_toArray, List.set_cons_succ, List.set_cons_zero]
  refine anyL_takeD (i := 14) (d := 29) (v := (.agg N2)) rfl rfl (by kernel_rfl) (by kernel_rfl) (by kernel_rfl) (fun _ _ _ h => h) hSd (by kernel_rfl) (.inl (.inl ⟨rfl, fun w' hS => exec_load rfl rfl (L2.out w' hS)⟩)) kx1 ?_
  try simp only [List.setIfInBounds_toArray, List.set_cons_succ, List.set_cons_zero]
  refine anyL_all (rs := [15]) (by kernel_rfl) (by simp) ?_
  intro n15 i hi
  simp only [List.mem_cons, List.not_mem_nil, or_false] at hi
  obtain rfl := hi
  refine wpOp_of rfl rfl ?_
  go_simp
  refine Calls.mono (CC.out _) ?_
  rintro e x2 ⟨rfl, jx2⟩
  try dsimp only
  have kx2 : Kp (fun _ => False) w9 x2 := (kx1.drewN _).trans jx2
  refine ⟨fun _ => kx2, ?_⟩
  try simp only [List.setIfInBounds_toArray, List.set_cons_succ, List.set_cons_zero]
  refine anyL_takeF (i := 16) (d := 31) (v := (.agg N2)) rfl rfl (by kernel_rfl) (by kernel_rfl) (by kernel_rfl) (fun _ _ _ h => h) hSd (by kernel_rfl) (.inl (.inl ⟨rfl, fun w' hS => exec_build rfl rfl (B2.out w')⟩)) (fun _ => kx2) ?_
  try simp only [List.setIfInBounds_toArray, List.set_cons_succ, List.set_cons_zero]
  refine anyL_takeF (i := 17) (d := 32) (v := (.bool true)) rfl rfl (by kernel_rfl) (by kernel_rfl) (by kernel_rfl) (fun _ _ _ h => h) hSd (by kernel_rfl) (.inl (.inl ⟨rfl, fun w' hS => exec_eql rfl rfl rfl (by kernel_rfl) (Q2.out w')⟩)) (fun _ => kx2) ?_
  try simp only [List.setIfInBounds_toArray, List.set_cons_succ, List.set_cons_zero]
  refine anyL_takeF (i := 18) (d := 33) (v := (.bool true)) rfl rfl (by kernel_rfl) (by kernel_rfl) (by kernel_rfl) (fun _ _ _ h => h) hSd (by kernel_rfl) (.inl (.inl ⟨rfl, fun w' hS => by go_simp⟩)) (fun _ => kx2) ?_
  try simp only [List.setIfInBounds_toArray, List.set_cons_succ, List.set_cons_zero]
  refine anyL_takeF (i := 19) (d := 34) (v := (.bool true)) rfl rfl (by kernel_rfl) (by kernel_rfl) (by kernel_rfl) (fun _ _ _ h => h) hSd (by kernel_rfl) (.inl (.inl ⟨rfl, fun w' hS => by go_simp⟩)) (fun _ => kx2) ?_
  try simp only [List.setIfInBounds_toArray, List.set_cons_succ, List.set_cons_zero]
  refine anyL_takeF (i := 20) (d := 35) (v := (.slice (some ⟨bm, 0, none⟩) 2 2)) rfl rfl (by kernel_rfl) (by kernel_rfl) (by kernel_rfl) (fun _ _ _ h => h) hSd (by kernel_rfl) (.inl (.inl ⟨rfl, fun w' hS => by go_simp⟩)) (fun _ => kx2) ?_
  try simp only [List.setIfInBounds_toArray, List.set_cons_succ, List.set_cons_zero]
  refine anyL_all (rs := [21]) (by kernel_rfl) (by simp) ?_
  intro n21 i hi
  simp only [List.mem_cons, List.not_mem_nil, or_false] at hi
  obtain rfl := hi
  refine wpOp_of rfl rfl ?_
  go_simp
  refine Calls.mono (CA.out _) ?_
  rintro e x3 ⟨rfl, jx3⟩
  try dsimp only
  have kx3 : Kp (fun _ => False) w9 x3 := (kx2.drewN _).trans jx3
  refine ⟨fun _ => kx3, ?_⟩
  try simp only [List.setIfInBounds_toArray, List.set_cons_succ, List.set_cons_zero]
  refine anyL_all (rs := [22]) (by kernel_rfl) (by simp) ?_
  intro n22 i hi
  simp only [List.mem_cons, List.not_mem_nil, or_false] at hi
  obtain rfl := hi
  refine wpOp_of rfl rfl ?_
  go_simp
  refine Calls.mono (CC.out _) ?_
  rintro e x4 ⟨rfl, jx4⟩
  try dsimp only
  have kx4 : Kp (fun _ => False) w9 x4 := (kx3.drewN _).trans jx4
  refine ⟨fun _ => kx4, ?_⟩
  try simp only [List.setIfInBounds_toArray, List.set_cons_succ, List.set_cons_zero]
  refine anyL_all (rs := [23]) (by kernel_rfl) (by simp) ?_
  intro n23 i hi
  simp only [List.mem_cons, List.not_mem_nil, or_false] at hi
  obtain rfl := hi
  refine wpOp_of rfl rfl ?_
  refine wp_buildSlice_run (ps := #[(0, .agg IA), (1, .agg IC)]) rfl rfl (H2'.out _) ?_
  have kx5 : Kp (fun _ => False) w9 ((x4.drewN n23).alloc (.cells (idC [idk 1, idk 3]).toArray 41)) := (kx4.drewN _).alloc _
  have rx5 := rdi_two (idk 1) (idk 3) rfl rfl (x4.drewN n23)
  refine ⟨fun _ => kx5, ?_⟩
  try dsimp only
  try simp only [List.setIfInBounds_toArray, List.set_cons_succ, List.set_cons_zero]
  generalize hbb5 : (x4.drewN n23).heap.size = b5 at *
  generalize (x4.drewN n23).alloc (.cells (idC [idk 1, idk 3]).toArray 41) = x5 at *
  refine anyL_all (rs := [24]) (by kernel_rfl) (by simp) ?_
  intro n24 i hi
  simp only [List.mem_cons, List.not_mem_nil, or_false] at hi
  obtain rfl := hi
  refine wpOp_of rfl rfl ?_
  go_simp
  refine Calls.mono (lost_any (some ⟨bm, 0, none⟩) (some ⟨b5, 0, none⟩) 2 2 2 2 msA [idk 1, idk 3] _ rfl rfl ((H8.out.1.kp0 H9.out.2).kp0 (kx5.drewN _)) (rx5.kp0 ((Kp.refl _ x5).drewN _)) (by decide)) ?_
  rintro e x6 ⟨v6, rfl, hn6, hg6, j6⟩
  try dsimp only
  obtain ⟨a6, c6, rfl, hr6, hc6⟩ := hn6.form
  have kx6 : Kp (fun _ => False) w9 x6 := (kx5.drewN _).trans j6
  rw [show newL [idk 1, idk 3] (allI msA) = [idk 2] by decide] at hr6 hc6 ⊢
  try simp only [List.length_cons, List.length_nil, Nat.zero_add]
  refine ⟨fun _ => kx6, ?_⟩
  try simp only [List.setIfInBounds_toArray, List.set_cons_succ, List.set_cons_zero]
  refine anyL_all (rs := [25]) (by kernel_rfl) (by simp) ?_
  intro n25 i hi
  simp only [List.mem_cons, List.not_mem_nil, or_false] at hi
  obtain rfl := hi
  refine wpOp_of rfl rfl ?_
  go_simp
  refine Calls.mono (CB.out _) ?_
  rintro e x7 ⟨rfl, jx7⟩
  try dsimp only
  have kx7 : Kp (fun _ => False) w9 x7 := (kx6.drewN _).trans jx7
  refine ⟨fun _ => kx7, ?_⟩
  try simp only [List.setIfInBounds_toArray, List.set_cons_succ, List.set_cons_zero]
  have r7 := hr6.kp0 (((Kp.refl _ x6).drewN n25).trans jx7)
  refine anyL_all (rs := [26]) (by kernel_rfl) (by simp) ?_
  intro n26 i hi
  simp only [List.mem_cons, List.not_mem_nil, or_false] at hi
  obtain rfl := hi
  refine wpOp_of rfl rfl ?_
  have r8 := rdi_one (idk 2) rfl (x7.drewN n26)
  rw [← HI.out.2.1] at r8
  refine wp_buildSlice_run (ps := #[(0, .agg IB)]) rfl rfl (H1'.out _) ?_
  have kx8 : Kp (fun _ => False) w9 ((x7.drewN n26).alloc (.cells IB 41)) := (kx7.drewN _).alloc _
  have r78 := r7.kp0 (((Kp.refl (fun _ => False) x7).drewN n26).alloc (.cells IB 41))
  refine ⟨fun _ => kx8, ?_⟩
  try dsimp only
  try simp only [List.setIfInBounds_toArray, List.set_cons_succ, List.set_cons_zero]
  generalize hb8 : (x7.drewN n26).heap.size = b8 at *
  generalize (x7.drewN n26).alloc (.cells IB 41) = x8 at *
  refine anyL_all (rs := [27]) (by kernel_rfl) (by simp) ?_
  intro n27 i hi
  simp only [List.mem_cons, List.not_mem_nil, or_false] at hi
  obtain rfl := hi
  refine wpOp_of rfl rfl ?_
  go_simp
  refine Calls.mono (sameids_eq a6 (some ⟨b8, 0, none⟩) 1 c6 1 [idk 2] rfl _ (r78.kp0 ((Kp.refl _ x8).drewN _)) (r8.kp0 ((Kp.refl _ x8).drewN _)) (by decide)) ?_
  rintro e x9 ⟨rfl, j9⟩
  try dsimp only
  have kx9 : Kp (fun _ => False) w9 x9 := (kx8.drewN _).trans j9
  refine ⟨fun _ => kx9, ?_⟩
  try simp only [List.setIfInBounds_toArray, List.set_cons_succ, List.set_cons_zero]
  refine anyL_takeF (i := 28) (d := 43) (v := (.bool true)) rfl rfl (by kernel_rfl) (by kernel_rfl) (by kernel_rfl) (fun _ _ _ h => h) hSd (by kernel_rfl) (.inl (.inl ⟨rfl, fun w' hS => by go_simp⟩)) (fun _ => kx9) ?_
  try simp only [List.setIfInBounds_toArray, List.set_cons_succ, List.set_cons_zero]
  refine anyL_takeF (i := 29) (d := 44) (v := (.bool true)) rfl rfl (by kernel_rfl) (by kernel_rfl) (by kernel_rfl) (fun _ _ _ h => h) hSd (by kernel_rfl) (.inl (.inl ⟨rfl, fun w' hS => by go_simp⟩)) (fun _ => kx9) ?_
  try simp only [List.setIfInBounds_toArray, List.set_cons_succ, List.set_cons_zero]
  refine anyL_takeF (i := 30) (d := 45) (v := (.agg #[.int .i64 1, .int .i64 100, .int .i64 25])) rfl rfl (by kernel_rfl) (by kernel_rfl) (by kernel_rfl) (fun _ _ _ h => h) hSd (by kernel_rfl) (.inl (.inl ⟨rfl, fun w' hS => by go_simp⟩)) (fun _ => kx9) ?_
  try simp only [List.setIfInBounds_toArray, List.set_cons_succ, List.set_cons_zero]
  refine anyL_takeF (i := 31) (d := 46) (v := (.agg #[.int .i64 2, .int .i64 100, .int .i64 50])) rfl rfl (by kernel_rfl) (by kernel_rfl) (by kernel_rfl) (fun _ _ _ h => h) hSd (by kernel_rfl) (.inl (.inl ⟨rfl, fun w' hS => by go_simp⟩)) (fun _ => kx9) ?_
  try simp only [List.setIfInBounds_toArray, List.set_cons_succ, List.set_cons_zero]
  clear kx1 kx2 kx3 kx4 kx5 kx6 kx7 kx8 rx5 r7 r78 r8 hr6 hn6 hg6 j6 j9 jx1 jx2 jx3 jx4 jx7 hc6
  refine anyL_all (rs := [32, 34]) (by kernel_rfl) (by simp) ?_
  intro nA i hi
  simp only [List.mem_cons, List.not_mem_nil, or_false] at hi
  rcases hi with rfl | rfl
  · refine wpOp_of rfl rfl ?_
    have rp : RdP ((x9.drewN nA).alloc (.cells #[.int .i64 1, .int .i64 100, .int .i64 25, .int .i64 2, .int .i64 100, .int .i64 50] 27)) (some ⟨x9.heap.size, 0, none⟩) pkA := rdp_new (x9.drewN nA)
    go_simp
    have ky1 : Kp (fun _ => False) w9 ((x9.drewN nA).alloc (.cells #[.int .i64 1, .int .i64 100, .int .i64 25, .int .i64 2, .int .i64 100, .int .i64 50] 27)) := (kx9.drewN _).alloc _
    have sy1 : Kp (fun _ => False) x9 ((x9.drewN nA).alloc (.cells #[.int .i64 1, .int .i64 100, .int .i64 25, .int .i64 2, .int .i64 100, .int .i64 50] 27)) := ((Kp.refl _ x9).drewN _).alloc _
    try dsimp only
    refine ⟨fun _ => ky1, ?_⟩
    try simp only [List.setIfInBounds_toArray, List.set_cons_succ, List.set_cons_zero]
    generalize hbp : x9.heap.size = bp at *
    generalize (x9.drewN nA).alloc (.cells #[.int .i64 1, .int .i64 100, .int .i64 25, .int .i64 2, .int .i64 100, .int .i64 50] 27) = y1 at *
    refine anyL_all (rs := [33, 34]) (by kernel_rfl) (by simp) ?_
    intro nB i hi
    simp only [List.mem_cons, List.not_mem_nil, or_false] at hi
    rcases hi with rfl | rfl
    · refine wpOp_of rfl rfl ?_
      go_simp
      refine Calls.mono (choose_any (some ⟨bp, 0, none⟩) 2 2 pkA 4598175219545276416 9 _ rfl (by decide) (rp.kp0 ((Kp.refl _ y1).drewN _))) ?_
      rintro e y2 ⟨vo, W, rfl, hW, hWp, hov, hgo, jo⟩
      rw [chosenA hW hWp] at hov
      obtain ⟨ao, co, rfl, _, _⟩ := hov.form
      have ky2 : Kp (fun _ => False) w9 y2 := (ky1.drewN _).trans jo
      have sy2 : Kp (fun _ => False) y1 y2 := ((Kp.refl _ y1).drewN _).trans jo
      have ro := hov.rd
      clear hov hW hWp hgo jo
      try simp only [List.length_cons, List.length_nil, Nat.zero_add, Nat.reduceAdd]
      try dsimp only
      refine ⟨fun _ => ky2, ?_⟩
      try simp only [List.setIfInBounds_toArray, List.set_cons_succ, List.set_cons_zero]
      refine anyL_all (rs := [34]) (by kernel_rfl) (by simp) ?_
      intro n34 i hi
      simp only [List.mem_cons, List.not_mem_nil, or_false] at hi
      obtain rfl := hi
      refine wpOp_of rfl rfl ?_
      have ri : Rd ((y2.drewN n34).alloc (.cells #[.int .i64 2, .int .i64 1] 3)) (some ⟨y2.heap.size, 0, none⟩) (intsZ [2, 1]) := Rd.new (y2.drewN n34) [.int .i64 2, .int .i64 1] 3
      go_simp
      have ky3 : Kp (fun _ => False) w9 ((y2.drewN n34).alloc (.cells #[.int .i64 2, .int .i64 1] 3)) := (ky2.drewN _).alloc _
      have sy3 : Kp (fun _ => False) y2 ((y2.drewN n34).alloc (.cells #[.int .i64 2, .int .i64 1] 3)) := ((Kp.refl _ y2).drewN _).alloc _
      try dsimp only
      refine ⟨fun _ => ky3, ?_⟩
      try simp only [List.setIfInBounds_toArray, List.set_cons_succ, List.set_cons_zero]
      generalize hbi : y2.heap.size = bi at *
      generalize (y2.drewN n34).alloc (.cells #[.int .i64 2, .int .i64 1] 3) = y3 at *
      refine anyL_all (rs := [35]) (by kernel_rfl) (by simp) ?_
      intro n35 i hi
      simp only [List.mem_cons, List.not_mem_nil, or_false] at hi
      obtain rfl := hi
      refine wpOp_of rfl rfl ?_
      go_simp
      refine Calls.mono (sameintsZ_eq ao (some ⟨bi, 0, none⟩) co 2 [2, 1] _ ((ro.kp sy3 (fun _ _ h => h)).kp ((Kp.refl (fun _ => False) y3).drewN _) (fun _ _ h => h)) (ri.kp ((Kp.refl (fun _ => False) y3).drewN _) (fun _ _ h => h)) (by decide)) ?_
      rintro e we ⟨rfl, ke, rfl⟩
      try dsimp only
      have kwe : Kp (fun _ => False) w9 ((y3.drewN n35).drewN ke) := (ky3.drewN _).drewN _
      refine ⟨fun _ => kwe, ?_⟩
      try simp only [List.setIfInBounds_toArray, List.set_cons_succ, List.set_cons_zero]
      refine anyL_takeF (i := 36) (d := 51) (v := (.bool true)) rfl rfl (by kernel_rfl) (by kernel_rfl) (by kernel_rfl) (fun _ _ _ h => h) hSd (by kernel_rfl) (.inl (.inl ⟨rfl, fun w' hS => by go_simp⟩)) (fun _ => kwe) ?_
      try simp only [List.setIfInBounds_toArray, List.set_cons_succ, List.set_cons_zero]
      refine anyL_takeF (i := 37) (d := 0) (v := (.bool true)) rfl rfl (by kernel_rfl) (by kernel_rfl) (by kernel_rfl) (fun _ _ _ h => h) hSd (by kernel_rfl) (.inl (.inl ⟨rfl, fun w' hS => by go_simp⟩)) (fun _ => kwe) ?_
      try simp only [List.setIfInBounds_toArray, List.set_cons_succ, List.set_cons_zero]
      refine anyL_done (by kernel_rfl) (fun nn => ?_) _
      have kf := (H8.out.2.trans H9.out.2).trans (kwe.drewN nn)
      generalize ((y3.drewN n35).drewN ke).drewN nn = wz at *
      clear kwe hSd hS1
      go_wp2
      go_ret
      exact ⟨rfl, kf⟩
    · refine wpOp_of rfl rfl ?_
      have ri : Rd ((y1.drewN nB).alloc (.cells #[.int .i64 2, .int .i64 1] 3)) (some ⟨y1.heap.size, 0, none⟩) (intsZ [2, 1]) := Rd.new (y1.drewN nB) [.int .i64 2, .int .i64 1] 3
      go_simp
      have ky2 : Kp (fun _ => False) w9 ((y1.drewN nB).alloc (.cells #[.int .i64 2, .int .i64 1] 3)) := (ky1.drewN _).alloc _
      have sy2 : Kp (fun _ => False) y1 ((y1.drewN nB).alloc (.cells #[.int .i64 2, .int .i64 1] 3)) := ((Kp.refl _ y1).drewN _).alloc _
      try dsimp only
      refine ⟨fun _ => ky2, ?_⟩
      try simp only [List.setIfInBounds_toArray, List.set_cons_succ, List.set_cons_zero]
      generalize hbi : y1.heap.size = bi at *
      generalize (y1.drewN nB).alloc (.cells #[.int .i64 2, .int .i64 1] 3) = y2 at *
      refine anyL_all (rs := [33]) (by kernel_rfl) (by simp) ?_
      intro n33 i hi
      simp only [List.mem_cons, List.not_mem_nil, or_false] at hi
      obtain rfl := hi
      refine wpOp_of rfl rfl ?_
      go_simp
      refine Calls.mono (choose_any (some ⟨bp, 0, none⟩) 2 2 pkA 4598175219545276416 9 _ rfl (by decide) ((rp.kp0 sy2).kp0 ((Kp.refl _ y2).drewN _))) ?_
      rintro e y3 ⟨vo, W, rfl, hW, hWp, hov, hgo, jo⟩
      rw [chosenA hW hWp] at hov
      obtain ⟨ao, co, rfl, _, _⟩ := hov.form
      have ky3 : Kp (fun _ => False) w9 y3 := (ky2.drewN _).trans jo
      have sy3 : Kp (fun _ => False) y2 y3 := ((Kp.refl _ y2).drewN _).trans jo
      have ro := hov.rd
      clear hov hW hWp hgo jo
      try simp only [List.length_cons, List.length_nil, Nat.zero_add, Nat.reduceAdd]
      try dsimp only
      refine ⟨fun _ => ky3, ?_⟩
      try simp only [List.setIfInBounds_toArray, List.set_cons_succ, List.set_cons_zero]
      refine anyL_all (rs := [35]) (by kernel_rfl) (by simp) ?_
      intro n35 i hi
      simp only [List.mem_cons, List.not_mem_nil, or_false] at hi
      obtain rfl := hi
      refine wpOp_of rfl rfl ?_
      go_simp
      refine Calls.mono (sameintsZ_eq ao (some ⟨bi, 0, none⟩) co 2 [2, 1] _ (ro.kp ((Kp.refl (fun _ => False) y3).drewN _) (fun _ _ h => h)) ((ri.kp sy3 (fun _ _ h => h)).kp ((Kp.refl (fun _ => False) y3).drewN _) (fun _ _ h => h)) (by decide)) ?_
      rintro e we ⟨rfl, ke, rfl⟩
      try dsimp only
      have kwe : Kp (fun _ => False) w9 ((y3.drewN n35).drewN ke) := (ky3.drewN _).drewN _
      refine ⟨fun _ => kwe, ?_⟩
      try simp only [List.setIfInBounds_toArray, List.set_cons_succ, List.set_cons_zero]
      refine anyL_takeF (i := 36) (d := 51) (v := (.bool true)) rfl rfl (by kernel_rfl) (by kernel_rfl) (by kernel_rfl) (fun _ _ _ h => h) hSd (by kernel_rfl) (.inl (.inl ⟨rfl, fun w' hS => by go_simp⟩)) (fun _ => kwe) ?_
      try simp only [List.setIfInBounds_toArray, List.set_cons_succ, List.set_cons_zero]
      refine anyL_takeF (i := 37) (d := 0) (v := (.bool true)) rfl rfl (by kernel_rfl) (by kernel_rfl) (by kernel_rfl) (fun _ _ _ h => h) hSd (by kernel_rfl) (.inl (.inl ⟨rfl, fun w' hS => by go_simp⟩)) (fun _ => kwe) ?_
      try simp only [List.setIfInBounds_toArray, List.set_cons_succ, List.set_cons_zero]
      refine anyL_done (by kernel_rfl) (fun nn => ?_) _
      have kf := (H8.out.2.trans H9.out.2).trans (kwe.drewN nn)
      generalize ((y3.drewN n35).drewN ke).drewN nn = wz at *
      clear kwe hSd hS1
      go_wp2
      go_ret
      exact ⟨rfl, kf⟩
  · refine wpOp_of rfl rfl ?_
    have ri : Rd ((x9.drewN nA).alloc (.cells #[.int .i64 2, .int .i64 1] 3)) (some ⟨x9.heap.size, 0, none⟩) (intsZ [2, 1]) := Rd.new (x9.drewN nA) [.int .i64 2, .int .i64 1] 3
    go_simp
    have ky1 : Kp (fun _ => False) w9 ((x9.drewN nA).alloc (.cells #[.int .i64 2, .int .i64 1] 3)) := (kx9.drewN _).alloc _
    have sy1 : Kp (fun _ => False) x9 ((x9.drewN nA).alloc (.cells #[.int .i64 2, .int .i64 1] 3)) := ((Kp.refl _ x9).drewN _).alloc _
    try dsimp only
    refine ⟨fun _ => ky1, ?_⟩
    try simp only [List.setIfInBounds_toArray, List.set_cons_succ, List.set_cons_zero]
    generalize hbi : x9.heap.size = bi at *
    generalize (x9.drewN nA).alloc (.cells #[.int .i64 2, .int .i64 1] 3) = y1 at *
    refine anyL_all (rs := [32]) (by kernel_rfl) (by simp) ?_
    intro n32 i hi
    simp only [List.mem_cons, List.not_mem_nil, or_false] at hi
    obtain rfl := hi
    refine wpOp_of rfl rfl ?_
    have rp : RdP ((y1.drewN n32).alloc (.cells #[.int .i64 1, .int .i64 100, .int .i64 25, .int .i64 2, .int .i64 100, .int .i64 50] 27)) (some ⟨y1.heap.size, 0, none⟩) pkA := rdp_new (y1.drewN n32)
    go_simp
    have ky2 : Kp (fun _ => False) w9 ((y1.drewN n32).alloc (.cells #[.int .i64 1, .int .i64 100, .int .i64 25, .int .i64 2, .int .i64 100, .int .i64 50] 27)) := (ky1.drewN _).alloc _
    have sy2 : Kp (fun _ => False) y1 ((y1.drewN n32).alloc (.cells #[.int .i64 1, .int .i64 100, .int .i64 25, .int .i64 2, .int .i64 100, .int .i64 50] 27)) := ((Kp.refl _ y1).drewN _).alloc _
    try dsimp only
    refine ⟨fun _ => ky2, ?_⟩
    try simp only [List.setIfInBounds_toArray, List.set_cons_succ, List.set_cons_zero]
    generalize hbp : y1.heap.size = bp at *
    generalize (y1.drewN n32).alloc (.cells #[.int .i64 1, .int .i64 100, .int .i64 25, .int .i64 2, .int .i64 100, .int .i64 50] 27) = y2 at *
    refine anyL_all (rs := [33]) (by kernel_rfl) (by simp) ?_
    intro n33 i hi
    simp only [List.mem_cons, List.not_mem_nil, or_false] at hi
    obtain rfl := hi
    refine wpOp_of rfl rfl ?_
    go_simp
    refine Calls.mono (choose_any (some ⟨bp, 0, none⟩) 2 2 pkA 4598175219545276416 9 _ rfl (by decide) (rp.kp0 ((Kp.refl _ y2).drewN _))) ?_
    rintro e y3 ⟨vo, W, rfl, hW, hWp, hov, hgo, jo⟩
    rw [chosenA hW hWp] at hov
    obtain ⟨ao, co, rfl, _, _⟩ := hov.form
    have ky3 : Kp (fun _ => False) w9 y3 := (ky2.drewN _).trans jo
    have sy3 : Kp (fun _ => False) y2 y3 := ((Kp.refl _ y2).drewN _).trans jo
    have ro := hov.rd
    clear hov hW hWp hgo jo
    try simp only [List.length_cons, List.length_nil, Nat.zero_add, Nat.reduceAdd]
    try dsimp only
    refine ⟨fun _ => ky3, ?_⟩
    try simp only [List.setIfInBounds_toArray, List.set_cons_succ, List.set_cons_zero]
    refine anyL_all (rs := [35]) (by kernel_rfl) (by simp) ?_
    intro n35 i hi
    simp only [List.mem_cons, List.not_mem_nil, or_false] at hi
    obtain rfl := hi
    refine wpOp_of rfl rfl ?_
    go_simp
    refine Calls.mono (sameintsZ_eq ao (some ⟨bi, 0, none⟩) co 2 [2, 1] _ (ro.kp ((Kp.refl (fun _ => False) y3).drewN _) (fun _ _ h => h)) (((ri.kp sy2 (fun _ _ h => h)).kp sy3 (fun _ _ h => h)).kp ((Kp.refl (fun _ => False) y3).drewN _) (fun _ _ h => h)) (by decide)) ?_
    rintro e we ⟨rfl, ke, rfl⟩
    try dsimp only
    have kwe : Kp (fun _ => False) w9 ((y3.drewN n35).drewN ke) := (ky3.drewN _).drewN _
    refine ⟨fun _ => kwe, ?_⟩
    try simp only [List.setIfInBounds_toArray, List.set_cons_succ, List.set_cons_zero]
    refine anyL_takeF (i := 36) (d := 51) (v := (.bool true)) rfl rfl (by kernel_rfl) (by kernel_rfl) (by kernel_rfl) (fun _ _ _ h => h) hSd (by kernel_rfl) (.inl (.inl ⟨rfl, fun w' hS => by go_simp⟩)) (fun _ => kwe) ?_
    try simp only [List.setIfInBounds_toArray, List.set_cons_succ, List.set_cons_zero]
    refine anyL_takeF (i := 37) (d := 0) (v := (.bool true)) rfl rfl (by kernel_rfl) (by kernel_rfl) (by kernel_rfl) (fun _ _ _ h => h) hSd (by kernel_rfl) (.inl (.inl ⟨rfl, fun w' hS => by go_simp⟩)) (fun _ => kwe) ?_
    try simp only [List.setIfInBounds_toArray, List.set_cons_succ, List.set_cons_zero]
    refine anyL_done (by kernel_rfl) (fun nn => ?_) _
    have kf := (H8.out.2.trans H9.out.2).trans (kwe.drewN nn)
    generalize ((y3.drewN n35).drewN ke).drewN nn = wz at *
    clear kwe hSd hS1
    go_wp2
    go_ret
    exact ⟨rfl, kf⟩
end Go.Proofs.Ytaibdkdmilhloaa
