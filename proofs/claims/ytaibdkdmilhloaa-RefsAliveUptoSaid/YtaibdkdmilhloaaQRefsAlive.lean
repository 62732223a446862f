/- RefsAlive: the walk. (Written by wip/refalive.py.) -/
import Derived.Test.YtaibdkdmilhloaaQAwk
import Derived.Test.YtaibdkdmilhloaaQCnt
import Derived.Test.YtaibdkdmilhloaaQIdO
import Derived.Test.YtaibdkdmilhloaaQIdP
import Derived.Test.YtaibdkdmilhloaaQIdX
import Derived.Test.YtaibdkdmilhloaaQMnl
namespace Go.Proofs.Ytaibdkdmilhloaa
open Go.RowKit
set_option linter.unusedVariables false
set_option linter.unusedSimpArgs false
theorem bigB_no2 {ms : List (List (List Id))} {n : Nat} (h : bigB ms n = false) : ms.length ≤ 8 ∧ bulkM ms ≤ 300 ∧ n ≤ 200 := by
  unfold bigB at h
  simp only [Bool.or_eq_false_iff, decide_eq_false_iff_not] at h
  omega
theorem bigB_nil3 (n : Nat) : bigB [] n = decide (200 < n) := by simp [bigB, bulkM]
theorem big3 (aa : Option Addr) (na ca : Nat) (w : World) : Calls Try.prog 16 #[.slice none 0 0, .slice aa na ca] w fun e w' => e = .returned (.bool (decide (200 < na))) ∧ Kp (fun _ => False) w w' := by
  have h := big_any none aa 0 0 na ca [] w rfl (fun i hi => absurd hi (Nat.not_lt_zero _)) (by simp [bulkM])
  rwa [bigB_nil3] at h
set_option maxHeartbeats 4000000 in
set_option maxRecDepth 20000 in
theorem alive_big1 (a0 ai a2 a3 : Option Addr) (n0 c0 mL ci n2 c2 n3 c3 : Nat) (x0 x1 x2 x3 : Int) (ms : List (List (List Id))) (mm : List (List Id)) (AL BL : List Id) (w : World) (hn0 : n0 = ms.length) (hmL : mL = mm.length) (hn2 : n2 = AL.length) (hn3 : n3 = BL.length) (hm : RdM w a0 ms) (hmm : RdT w ai mm) (hmc : mL ≤ ci ∧ mL ≤ 2000000) (hl2 : RdI w a2 AL) (hl3 : RdI w a3 BL) (hbk : bulkM (ms ++ [mm]) ≤ 3000000) (hn8 : n0 ≤ 1099998) (hB : bigB (ms ++ [mm]) n2 = true) :
    Calls Try.prog 7 #[.slice a0 n0 c0, .agg #[.int .i64 x0, .int .i64 x1, .int .i64 x2, .int .i64 x3, .slice ai mL ci], .slice a2 n2 c2, .slice a3 n3 c3] w fun e w' => e = .returned (.bool true) ∧ Below w.heap.size w w' := by
  obtain ⟨bx, hbx⟩ : ∃ bx, bx = w.heap.size := ⟨_, rfl⟩
  obtain ⟨wb, hwb⟩ : ∃ wb, wb = w.alloc (.cells #[.int .i64 x0, .int .i64 x1, .int .i64 x2, .int .i64 x3, .slice ai mL ci] 54) := ⟨_, rfl⟩
  have kb : Kp (fun _ => False) w wb := by rw [hwb]; exact (Kp.refl _ w).alloc _
  have ab : At wb bx [.int .i64 x0, .int .i64 x1, .int .i64 x2, .int .i64 x3, .slice ai mL ci] := by rw [hwb, hbx]; exact At.new w _ _
  have HWB := Lib.hid (And.intro kb ab)
  have HN := Lib.hid (show n0 = ms.length ∧ RdM w a0 ms ∧ n0 ≤ 1099998 ∧ mL = mm.length ∧ RdT w ai mm ∧ (mL ≤ ci ∧ mL ≤ 2000000) ∧ n2 = AL.length ∧ n3 = BL.length ∧ RdI w a2 AL ∧ RdI w a3 BL ∧ bulkM (ms ++ [mm]) ≤ 3000000 from ⟨hn0, hm, hn8, hmL, hmm, hmc, hn2, hn3, hl2, hl3, hbk⟩)
  clear kb ab hn0 hmL hn2 hn3 hm hmm hmc hl2 hl3 hbk hn8
  go_enter Try.func7, Try.ntmps7
  go_wp2_with fail
  rw [← hwb, ← hbx]
  clear hwb hbx
  go_at_call 15
  refine (awake_any _).mono ?_
  rintro e w1 ⟨rfl, k1⟩
  have k01 := HWB.out.1.trans k1
  have ab1 := k1.at HWB.out.2 (fun h => h)
  have HB := Lib.hid (show w1.cell? ⟨bx, 0, none⟩ = some (.int .i64 x0) ∧ w1.cell? ⟨bx, 1, none⟩ = some (.int .i64 x1) ∧ w1.cell? ⟨bx, 2, none⟩ = some (.int .i64 x2) ∧ w1.cell? ⟨bx, 3, none⟩ = some (.int .i64 x3) ∧ w1.cell? ⟨bx, 4, none⟩ = some (.slice ai mL ci) from ⟨ab1.cell 0, ab1.cell 1, ab1.cell 2, ab1.cell 3, ab1.cell 4⟩)
  have HRM := Lib.hid (show RowM w1 [.int .i64 x0, .int .i64 x1, .int .i64 x2, .int .i64 x3, .slice ai mL ci] mm from ⟨x0, x1, x2, x3, ai, ci, by rw [HN.out.2.2.2.1], HN.out.2.2.2.2.1.ge (k01.mono (fun _ _ h => h.elim)), by rw [← HN.out.2.2.2.1]; exact HN.out.2.2.2.2.2.1.1, by rw [← HN.out.2.2.2.1]; exact HN.out.2.2.2.2.2.1.2⟩)
  have HNA := Lib.hid HN.out
  have HN := Lib.hid (show n0 = ms.length ∧ RdM w1 a0 ms ∧ n0 ≤ 1099998 from ⟨HNA.out.1, HNA.out.2.1.kp0 k01, HNA.out.2.2.1⟩)
  have K01 := Lib.hid k01
  clear k1 k01 ab1 HWB
  go_wp2_with fail
  go_upto_region 2 with fail
  go_cut [10] (fun v wx => ∃ a c, v = .slice a (ms ++ [mm]).length c ∧ RdM wx a (ms ++ [mm]) ∧ Kp (fun _ => False) w1 wx)
  case first =>
    refine region_L (S := fun w' => Kp (fun _ => False) w1 w') [] rfl ?_
    have hSd : ∀ (w' : World) (n' : Nat), Kp (fun _ => False) w1 w' → Kp (fun _ => False) w1 (w'.drewN n') := fun w' n' h => h.drewN n'
    have hS0 : Kp (fun _ => False) w1 w1.drew := (Kp.refl _ w1).drew
    refine anyL_world (fun w' => Kp (fun _ => False) w1 w') hS0 ?_
    clear hS0
    intro z0 kz0
    refine anyL_takeF (i := 1) (d := 21) (v := (.slice a0 n0 c0)) rfl rfl (by kernel_rfl) (by kernel_rfl) (by kernel_rfl) (fun _ _ _ h => h) hSd (by kernel_rfl) (.inl (.inl ⟨rfl, fun w' hS => by first | rfl | go_simp⟩)) (fun _ => kz0) ?_
    try simp only [List.setIfInBounds_toArray, List.set_cons_succ, List.set_cons_zero]
    refine anyL_takeD (i := 3) (d := 23) (v := (.agg #[.int .i64 x0, .int .i64 x1, .int .i64 x2, .int .i64 x3, .slice ai mL ci])) rfl rfl (by kernel_rfl) (by kernel_rfl) (by kernel_rfl) (fun _ _ _ h => h) hSd (by kernel_rfl) (.inl (.inl ⟨rfl, fun w' hS => by have h0 := hS.cell HB.out.1 (fun h => h); have h1 := hS.cell HB.out.2.1 (fun h => h); have h2 := hS.cell HB.out.2.2.1 (fun h => h); have h3 := hS.cell HB.out.2.2.2.1 (fun h => h); have h4 := hS.cell HB.out.2.2.2.2 (fun h => h); go_simp⟩)) kz0 ?_
    try simp only [List.setIfInBounds_toArray, List.set_cons_succ, List.set_cons_zero]
    refine anyL_all (rs := [0, 4]) (by kernel_rfl) (by simp) ?_
    intro n0 i hi
    simp only [List.mem_cons, List.not_mem_nil, or_false] at hi
    rcases hi with rfl | rfl
    · refine wpOp_of rfl rfl ?_
      go_simp
      have oy1 := OwnM.empty (kz0.drewN n0)
      obtain ⟨py1, hpy1⟩ : ∃ p, p = z0.heap.size := ⟨_, rfl⟩
      obtain ⟨y1, hy1⟩ : ∃ y, y = (z0.drewN n0).alloc (Obj.cells #[] 54) := ⟨_, rfl⟩
      rw [← hy1, ← hpy1]
      have oy1 : OwnM w1 y1 (.slice (some ⟨py1, 0, none⟩) 0 0) [] := by rw [hy1, hpy1]; exact oy1
      have ly1 : Kp (fun _ => False) z0 y1 := by rw [hy1]; exact ((Kp.refl _ z0).drewN n0).alloc _
      clear hy1 hpy1
      try dsimp only
      have ky1 : Kp (fun _ => False) w1 y1 := oy1.kp
      refine ⟨fun _ => ky1, ?_⟩
      try simp only [List.setIfInBounds_toArray, List.set_cons_succ, List.set_cons_zero]
      refine anyL_all (rs := [2, 4]) (by kernel_rfl) (by simp) ?_
      intro n2 i hi
      simp only [List.mem_cons, List.not_mem_nil, or_false] at hi
      rcases hi with rfl | rfl
      · obtain ⟨vy3, y3, qy3, oy3, sy3, ty3⟩ := (oy1.kp0 ((Kp.refl _ y1).drewN n2)).copy c0 HN.out.1 HN.out.2.1 (by have h1 := HN.out.1; have h2 := HN.out.2.2; rw [← h1]; simp; omega)
        rw [List.nil_append] at oy3
        obtain ⟨ay3, cy3, ey3, _⟩ := oy3.form
        rw [← HN.out.1] at ey3
        subst ey3
        refine wpOp_of rfl rfl ?_
        refine wp_append_run qy3 rfl rfl rfl ?_
        try dsimp only
        have ky3 : Kp (fun _ => False) w1 y3 := oy3.kp
        refine ⟨fun _ => ky3, ?_⟩
        try simp only [List.setIfInBounds_toArray, List.set_cons_succ, List.set_cons_zero]
        refine anyL_all (rs := [4]) (by kernel_rfl) (by simp) ?_
        intro n4 i hi
        simp only [List.mem_cons, List.not_mem_nil, or_false] at hi
        obtain rfl := hi
        refine wpOp_of rfl rfl ?_
        go_simp
        obtain ⟨py5, hpy5⟩ : ∃ p, p = y3.heap.size := ⟨_, rfl⟩
        obtain ⟨y5, hy5⟩ : ∃ y, y = (y3.drewN n4).alloc (Obj.cells #[.int .i64 x0, .int .i64 x1, .int .i64 x2, .int .i64 x3, .slice ai mL ci] 54) := ⟨_, rfl⟩
        rw [← hy5, ← hpy5]
        have ry5 : At y5 py5 [.int .i64 x0, .int .i64 x1, .int .i64 x2, .int .i64 x3, .slice ai mL ci] := by rw [hy5, hpy5]; exact At.new (y3.drewN n4) _ _
        have ly5 : Kp (fun _ => False) y3 y5 := by rw [hy5]; exact ((Kp.refl _ y3).drewN n4).alloc _
        clear hy5 hpy5
        have oy5 := oy3.kp0 ly5
        try dsimp only
        have ky5 : Kp (fun _ => False) w1 y5 := oy5.kp
        refine ⟨fun _ => ky5, ?_⟩
        try simp only [List.setIfInBounds_toArray, List.set_cons_succ, List.set_cons_zero]
        refine anyL_all (rs := [5]) (by kernel_rfl) (by simp) ?_
        intro n6 i hi
        simp only [List.mem_cons, List.not_mem_nil, or_false] at hi
        obtain rfl := hi
        obtain ⟨vy7, y7, qy7, oy7, sy7, ty7⟩ := (oy5.kp0 ((Kp.refl _ y5).drewN n6)).apps (a := some ⟨py5, 0, none⟩) (n := 1) 1 (ns := [mm]) rfl (rows2 := [[.int .i64 x0, .int .i64 x1, .int .i64 x2, .int .i64 x3, .slice ai mL ci]]) rfl (fun i hi => by obtain rfl : i = 0 := (by simp at hi; omega); exact HRM.out) (by simpa [rowsF] using (Rd.of_at (pre := []) (post := []) (ry5.drewN n6))) (by have := HN.out.1; have := HN.out.2.2; simp; omega)
        obtain ⟨ay7, cy7, ey7, fy7⟩ := oy7.form
        obtain ⟨nny7, hny7⟩ : ∃ nn, nn = (ms ++ [mm]).length := ⟨_, rfl⟩
        rw [← hny7] at ey7
        subst ey7
        refine wpOp_of rfl rfl ?_
        refine wp_append_run qy7 rfl rfl rfl ?_
        try dsimp only
        have ky7 : Kp (fun _ => False) w1 y7 := oy7.kp
        refine ⟨fun _ => ky7, ?_⟩
        try simp only [List.setIfInBounds_toArray, List.set_cons_succ, List.set_cons_zero]
        refine anyL_takeF (i := 6) (d := 10) (v := (.slice ay7 nny7 cy7)) rfl rfl (by kernel_rfl) (by kernel_rfl) (by kernel_rfl) (fun _ _ _ h => h) hSd (by kernel_rfl) (.inl (.inl ⟨rfl, fun w' hS => by first | rfl | go_simp⟩)) (fun _ => ky7) ?_
        try simp only [List.setIfInBounds_toArray, List.set_cons_succ, List.set_cons_zero]
        refine anyL_done (by kernel_rfl) (fun nn => ?_) _
        go_wp2_with fail
        go_meet
        exact ⟨ay7, cy7, by simp, fy7.kp0 ((Kp.refl _ y7).drewN nn), ky7.drewN nn⟩
      · refine wpOp_of rfl rfl ?_
        go_simp
        obtain ⟨py8, hpy8⟩ : ∃ p, p = y1.heap.size := ⟨_, rfl⟩
        obtain ⟨y8, hy8⟩ : ∃ y, y = (y1.drewN n2).alloc (Obj.cells #[.int .i64 x0, .int .i64 x1, .int .i64 x2, .int .i64 x3, .slice ai mL ci] 54) := ⟨_, rfl⟩
        rw [← hy8, ← hpy8]
        have ry8 : At y8 py8 [.int .i64 x0, .int .i64 x1, .int .i64 x2, .int .i64 x3, .slice ai mL ci] := by rw [hy8, hpy8]; exact At.new (y1.drewN n2) _ _
        have ly8 : Kp (fun _ => False) y1 y8 := by rw [hy8]; exact ((Kp.refl _ y1).drewN n2).alloc _
        clear hy8 hpy8
        have oy8 := oy1.kp0 ly8
        try dsimp only
        have ky8 : Kp (fun _ => False) w1 y8 := oy8.kp
        refine ⟨fun _ => ky8, ?_⟩
        try simp only [List.setIfInBounds_toArray, List.set_cons_succ, List.set_cons_zero]
        refine anyL_all (rs := [2]) (by kernel_rfl) (by simp) ?_
        intro n9 i hi
        simp only [List.mem_cons, List.not_mem_nil, or_false] at hi
        obtain rfl := hi
        obtain ⟨vy10, y10, qy10, oy10, sy10, ty10⟩ := (oy8.kp0 ((Kp.refl _ y8).drewN n9)).copy c0 HN.out.1 HN.out.2.1 (by have h1 := HN.out.1; have h2 := HN.out.2.2; rw [← h1]; simp; omega)
        rw [List.nil_append] at oy10
        obtain ⟨ay10, cy10, ey10, _⟩ := oy10.form
        rw [← HN.out.1] at ey10
        subst ey10
        refine wpOp_of rfl rfl ?_
        refine wp_append_run qy10 rfl rfl rfl ?_
        have ry10 := keepRow (oy8.kp0 ((Kp.refl _ y8).drewN n9)) (ry8.drewN n9) ty10
        try dsimp only
        have ky10 : Kp (fun _ => False) w1 y10 := oy10.kp
        refine ⟨fun _ => ky10, ?_⟩
        try simp only [List.setIfInBounds_toArray, List.set_cons_succ, List.set_cons_zero]
        refine anyL_all (rs := [5]) (by kernel_rfl) (by simp) ?_
        intro n11 i hi
        simp only [List.mem_cons, List.not_mem_nil, or_false] at hi
        obtain rfl := hi
        obtain ⟨vy12, y12, qy12, oy12, sy12, ty12⟩ := (oy10.kp0 ((Kp.refl _ y10).drewN n11)).apps (a := some ⟨py8, 0, none⟩) (n := 1) 1 (ns := [mm]) rfl (rows2 := [[.int .i64 x0, .int .i64 x1, .int .i64 x2, .int .i64 x3, .slice ai mL ci]]) rfl (fun i hi => by obtain rfl : i = 0 := (by simp at hi; omega); exact HRM.out) (by simpa [rowsF] using (Rd.of_at (pre := []) (post := []) (ry10.drewN n11))) (by have := HN.out.1; have := HN.out.2.2; simp; omega)
        obtain ⟨ay12, cy12, ey12, fy12⟩ := oy12.form
        obtain ⟨nny12, hny12⟩ : ∃ nn, nn = (ms ++ [mm]).length := ⟨_, rfl⟩
        rw [← hny12] at ey12
        subst ey12
        refine wpOp_of rfl rfl ?_
        refine wp_append_run qy12 rfl rfl rfl ?_
        try dsimp only
        have ky12 : Kp (fun _ => False) w1 y12 := oy12.kp
        refine ⟨fun _ => ky12, ?_⟩
        try simp only [List.setIfInBounds_toArray, List.set_cons_succ, List.set_cons_zero]
        refine anyL_takeF (i := 6) (d := 10) (v := (.slice ay12 nny12 cy12)) rfl rfl (by kernel_rfl) (by kernel_rfl) (by kernel_rfl) (fun _ _ _ h => h) hSd (by kernel_rfl) (.inl (.inl ⟨rfl, fun w' hS => by first | rfl | go_simp⟩)) (fun _ => ky12) ?_
        try simp only [List.setIfInBounds_toArray, List.set_cons_succ, List.set_cons_zero]
        refine anyL_done (by kernel_rfl) (fun nn => ?_) _
        go_wp2_with fail
        go_meet
        exact ⟨ay12, cy12, by simp, fy12.kp0 ((Kp.refl _ y12).drewN nn), ky12.drewN nn⟩
    · refine wpOp_of rfl rfl ?_
      go_simp
      obtain ⟨py13, hpy13⟩ : ∃ p, p = z0.heap.size := ⟨_, rfl⟩
      obtain ⟨y13, hy13⟩ : ∃ y, y = (z0.drewN n0).alloc (Obj.cells #[.int .i64 x0, .int .i64 x1, .int .i64 x2, .int .i64 x3, .slice ai mL ci] 54) := ⟨_, rfl⟩
      rw [← hy13, ← hpy13]
      have ry13 : At y13 py13 [.int .i64 x0, .int .i64 x1, .int .i64 x2, .int .i64 x3, .slice ai mL ci] := by rw [hy13, hpy13]; exact At.new (z0.drewN n0) _ _
      have ly13 : Kp (fun _ => False) z0 y13 := by rw [hy13]; exact ((Kp.refl _ z0).drewN n0).alloc _
      clear hy13 hpy13
      try dsimp only
      have ky13 : Kp (fun _ => False) w1 y13 := kz0.trans ly13
      refine ⟨fun _ => ky13, ?_⟩
      try simp only [List.setIfInBounds_toArray, List.set_cons_succ, List.set_cons_zero]
      refine anyL_all (rs := [0]) (by kernel_rfl) (by simp) ?_
      intro n14 i hi
      simp only [List.mem_cons, List.not_mem_nil, or_false] at hi
      obtain rfl := hi
      refine wpOp_of rfl rfl ?_
      go_simp
      have oy15 := OwnM.empty (ky13.drewN n14)
      obtain ⟨py15, hpy15⟩ : ∃ p, p = y13.heap.size := ⟨_, rfl⟩
      obtain ⟨y15, hy15⟩ : ∃ y, y = (y13.drewN n14).alloc (Obj.cells #[] 54) := ⟨_, rfl⟩
      rw [← hy15, ← hpy15]
      have oy15 : OwnM w1 y15 (.slice (some ⟨py15, 0, none⟩) 0 0) [] := by rw [hy15, hpy15]; exact oy15
      have ly15 : Kp (fun _ => False) y13 y15 := by rw [hy15]; exact ((Kp.refl _ y13).drewN n14).alloc _
      clear hy15 hpy15
      have ry15 := ly15.at ry13 (fun h => h)
      try dsimp only
      have ky15 : Kp (fun _ => False) w1 y15 := oy15.kp
      refine ⟨fun _ => ky15, ?_⟩
      try simp only [List.setIfInBounds_toArray, List.set_cons_succ, List.set_cons_zero]
      refine anyL_all (rs := [2]) (by kernel_rfl) (by simp) ?_
      intro n16 i hi
      simp only [List.mem_cons, List.not_mem_nil, or_false] at hi
      obtain rfl := hi
      obtain ⟨vy17, y17, qy17, oy17, sy17, ty17⟩ := (oy15.kp0 ((Kp.refl _ y15).drewN n16)).copy c0 HN.out.1 HN.out.2.1 (by have h1 := HN.out.1; have h2 := HN.out.2.2; rw [← h1]; simp; omega)
      rw [List.nil_append] at oy17
      obtain ⟨ay17, cy17, ey17, _⟩ := oy17.form
      rw [← HN.out.1] at ey17
      subst ey17
      refine wpOp_of rfl rfl ?_
      refine wp_append_run qy17 rfl rfl rfl ?_
      have ry17 := keepRow (oy15.kp0 ((Kp.refl _ y15).drewN n16)) (ry15.drewN n16) ty17
      try dsimp only
      have ky17 : Kp (fun _ => False) w1 y17 := oy17.kp
      refine ⟨fun _ => ky17, ?_⟩
      try simp only [List.setIfInBounds_toArray, List.set_cons_succ, List.set_cons_zero]
      refine anyL_all (rs := [5]) (by kernel_rfl) (by simp) ?_
      intro n18 i hi
      simp only [List.mem_cons, List.not_mem_nil, or_false] at hi
      obtain rfl := hi
      obtain ⟨vy19, y19, qy19, oy19, sy19, ty19⟩ := (oy17.kp0 ((Kp.refl _ y17).drewN n18)).apps (a := some ⟨py13, 0, none⟩) (n := 1) 1 (ns := [mm]) rfl (rows2 := [[.int .i64 x0, .int .i64 x1, .int .i64 x2, .int .i64 x3, .slice ai mL ci]]) rfl (fun i hi => by obtain rfl : i = 0 := (by simp at hi; omega); exact HRM.out) (by simpa [rowsF] using (Rd.of_at (pre := []) (post := []) (ry17.drewN n18))) (by have := HN.out.1; have := HN.out.2.2; simp; omega)
      obtain ⟨ay19, cy19, ey19, fy19⟩ := oy19.form
      obtain ⟨nny19, hny19⟩ : ∃ nn, nn = (ms ++ [mm]).length := ⟨_, rfl⟩
      rw [← hny19] at ey19
      subst ey19
      refine wpOp_of rfl rfl ?_
      refine wp_append_run qy19 rfl rfl rfl ?_
      try dsimp only
      have ky19 : Kp (fun _ => False) w1 y19 := oy19.kp
      refine ⟨fun _ => ky19, ?_⟩
      try simp only [List.setIfInBounds_toArray, List.set_cons_succ, List.set_cons_zero]
      refine anyL_takeF (i := 6) (d := 10) (v := (.slice ay19 nny19 cy19)) rfl rfl (by kernel_rfl) (by kernel_rfl) (by kernel_rfl) (fun _ _ _ h => h) hSd (by kernel_rfl) (.inl (.inl ⟨rfl, fun w' hS => by first | rfl | go_simp⟩)) (fun _ => ky19) ?_
      try simp only [List.setIfInBounds_toArray, List.set_cons_succ, List.set_cons_zero]
      refine anyL_done (by kernel_rfl) (fun nn => ?_) _
      go_wp2_with fail
      go_meet
      exact ⟨ay19, cy19, by simp, fy19.kp0 ((Kp.refl _ y19).drewN nn), ky19.drewN nn⟩
  case rest =>
    obtain ⟨am, cm, rfl, hrm, k2⟩ := hcut
    obtain ⟨nm, hnm⟩ : ∃ nm, nm = (ms ++ [mm]).length := ⟨_, rfl⟩
    have CB := big_any am a2 nm cm n2 c2 (ms ++ [mm]) _ hnm hrm HNA.out.2.2.2.2.2.2.2.2.2.2
    rw [← hnm]
    rw [hB] at CB
    have CB := Lib.hid CB
    have K2 := Lib.hid (K01.out.trans k2)
    clear hrm k2 hB hnm
    go_wp2_with fail
    go_at_call 16
    refine CB.out.mono ?_
    rintro e w3 ⟨rfl, k3⟩
    have K3 := Lib.hid k3
    clear k3 CB
    go_wp2_with fail
    go_ret
    exact ⟨rfl, (K2.out.trans K3.out).below (fun _ _ h => h)⟩
set_option maxHeartbeats 4000000 in
set_option maxRecDepth 20000 in
theorem alive_big2 (a0 ai a2 a3 : Option Addr) (n0 c0 mL ci n2 c2 n3 c3 : Nat) (x0 x1 x2 x3 : Int) (ms : List (List (List Id))) (mm : List (List Id)) (AL BL : List Id) (w : World) (hn0 : n0 = ms.length) (hmL : mL = mm.length) (hn2 : n2 = AL.length) (hn3 : n3 = BL.length) (hm : RdM w a0 ms) (hmm : RdT w ai mm) (hmc : mL ≤ ci ∧ mL ≤ 2000000) (hl2 : RdI w a2 AL) (hl3 : RdI w a3 BL) (hbk : bulkM (ms ++ [mm]) ≤ 3000000) (hn8 : n0 ≤ 1099998) (hB : bigB (ms ++ [mm]) n2 = false) (hB3 : decide (200 < n3) = true) :
    Calls Try.prog 7 #[.slice a0 n0 c0, .agg #[.int .i64 x0, .int .i64 x1, .int .i64 x2, .int .i64 x3, .slice ai mL ci], .slice a2 n2 c2, .slice a3 n3 c3] w fun e w' => e = .returned (.bool true) ∧ Below w.heap.size w w' := by
  obtain ⟨bx, hbx⟩ : ∃ bx, bx = w.heap.size := ⟨_, rfl⟩
  obtain ⟨wb, hwb⟩ : ∃ wb, wb = w.alloc (.cells #[.int .i64 x0, .int .i64 x1, .int .i64 x2, .int .i64 x3, .slice ai mL ci] 54) := ⟨_, rfl⟩
  have kb : Kp (fun _ => False) w wb := by rw [hwb]; exact (Kp.refl _ w).alloc _
  have ab : At wb bx [.int .i64 x0, .int .i64 x1, .int .i64 x2, .int .i64 x3, .slice ai mL ci] := by rw [hwb, hbx]; exact At.new w _ _
  have HWB := Lib.hid (And.intro kb ab)
  have HN := Lib.hid (show n0 = ms.length ∧ RdM w a0 ms ∧ n0 ≤ 1099998 ∧ mL = mm.length ∧ RdT w ai mm ∧ (mL ≤ ci ∧ mL ≤ 2000000) ∧ n2 = AL.length ∧ n3 = BL.length ∧ RdI w a2 AL ∧ RdI w a3 BL ∧ bulkM (ms ++ [mm]) ≤ 3000000 from ⟨hn0, hm, hn8, hmL, hmm, hmc, hn2, hn3, hl2, hl3, hbk⟩)
  clear kb ab hn0 hmL hn2 hn3 hm hmm hmc hl2 hl3 hbk hn8
  go_enter Try.func7, Try.ntmps7
  go_wp2_with fail
  rw [← hwb, ← hbx]
  clear hwb hbx
  go_at_call 15
  refine (awake_any _).mono ?_
  rintro e w1 ⟨rfl, k1⟩
  have k01 := HWB.out.1.trans k1
  have ab1 := k1.at HWB.out.2 (fun h => h)
  have HB := Lib.hid (show w1.cell? ⟨bx, 0, none⟩ = some (.int .i64 x0) ∧ w1.cell? ⟨bx, 1, none⟩ = some (.int .i64 x1) ∧ w1.cell? ⟨bx, 2, none⟩ = some (.int .i64 x2) ∧ w1.cell? ⟨bx, 3, none⟩ = some (.int .i64 x3) ∧ w1.cell? ⟨bx, 4, none⟩ = some (.slice ai mL ci) from ⟨ab1.cell 0, ab1.cell 1, ab1.cell 2, ab1.cell 3, ab1.cell 4⟩)
  have HRM := Lib.hid (show RowM w1 [.int .i64 x0, .int .i64 x1, .int .i64 x2, .int .i64 x3, .slice ai mL ci] mm from ⟨x0, x1, x2, x3, ai, ci, by rw [HN.out.2.2.2.1], HN.out.2.2.2.2.1.ge (k01.mono (fun _ _ h => h.elim)), by rw [← HN.out.2.2.2.1]; exact HN.out.2.2.2.2.2.1.1, by rw [← HN.out.2.2.2.1]; exact HN.out.2.2.2.2.2.1.2⟩)
  have HNA := Lib.hid HN.out
  have HN := Lib.hid (show n0 = ms.length ∧ RdM w1 a0 ms ∧ n0 ≤ 1099998 from ⟨HNA.out.1, HNA.out.2.1.kp0 k01, HNA.out.2.2.1⟩)
  have K01 := Lib.hid k01
  clear k1 k01 ab1 HWB
  go_wp2_with fail
  go_upto_region 2 with fail
  go_cut [10] (fun v wx => ∃ a c, v = .slice a (ms ++ [mm]).length c ∧ RdM wx a (ms ++ [mm]) ∧ Kp (fun _ => False) w1 wx)
  case first =>
    refine region_L (S := fun w' => Kp (fun _ => False) w1 w') [] rfl ?_
    have hSd : ∀ (w' : World) (n' : Nat), Kp (fun _ => False) w1 w' → Kp (fun _ => False) w1 (w'.drewN n') := fun w' n' h => h.drewN n'
    have hS0 : Kp (fun _ => False) w1 w1.drew := (Kp.refl _ w1).drew
    refine anyL_world (fun w' => Kp (fun _ => False) w1 w') hS0 ?_
    clear hS0
    intro z0 kz0
    refine anyL_takeF (i := 1) (d := 21) (v := (.slice a0 n0 c0)) rfl rfl (by kernel_rfl) (by kernel_rfl) (by kernel_rfl) (fun _ _ _ h => h) hSd (by kernel_rfl) (.inl (.inl ⟨rfl, fun w' hS => by first | rfl | go_simp⟩)) (fun _ => kz0) ?_
    try simp only [List.setIfInBounds_toArray, List.set_cons_succ, List.set_cons_zero]
    refine anyL_takeD (i := 3) (d := 23) (v := (.agg #[.int .i64 x0, .int .i64 x1, .int .i64 x2, .int .i64 x3, .slice ai mL ci])) rfl rfl (by kernel_rfl) (by kernel_rfl) (by kernel_rfl) (fun _ _ _ h => h) hSd (by kernel_rfl) (.inl (.inl ⟨rfl, fun w' hS => by have h0 := hS.cell HB.out.1 (fun h => h); have h1 := hS.cell HB.out.2.1 (fun h => h); have h2 := hS.cell HB.out.2.2.1 (fun h => h); have h3 := hS.cell HB.out.2.2.2.1 (fun h => h); have h4 := hS.cell HB.out.2.2.2.2 (fun h => h); go_simp⟩)) kz0 ?_
    try simp only [List.setIfInBounds_toArray, List.set_cons_succ, List.set_cons_zero]
    refine anyL_all (rs := [0, 4]) (by kernel_rfl) (by simp) ?_
    intro n0 i hi
    simp only [List.mem_cons, List.not_mem_nil, or_false] at hi
    rcases hi with rfl | rfl
    · refine wpOp_of rfl rfl ?_
      go_simp
      have oy1 := OwnM.empty (kz0.drewN n0)
      obtain ⟨py1, hpy1⟩ : ∃ p, p = z0.heap.size := ⟨_, rfl⟩
      obtain ⟨y1, hy1⟩ : ∃ y, y = (z0.drewN n0).alloc (Obj.cells #[] 54) := ⟨_, rfl⟩
      rw [← hy1, ← hpy1]
      have oy1 : OwnM w1 y1 (.slice (some ⟨py1, 0, none⟩) 0 0) [] := by rw [hy1, hpy1]; exact oy1
      have ly1 : Kp (fun _ => False) z0 y1 := by rw [hy1]; exact ((Kp.refl _ z0).drewN n0).alloc _
      clear hy1 hpy1
      try dsimp only
      have ky1 : Kp (fun _ => False) w1 y1 := oy1.kp
      refine ⟨fun _ => ky1, ?_⟩
      try simp only [List.setIfInBounds_toArray, List.set_cons_succ, List.set_cons_zero]
      refine anyL_all (rs := [2, 4]) (by kernel_rfl) (by simp) ?_
      intro n2 i hi
      simp only [List.mem_cons, List.not_mem_nil, or_false] at hi
      rcases hi with rfl | rfl
      · obtain ⟨vy3, y3, qy3, oy3, sy3, ty3⟩ := (oy1.kp0 ((Kp.refl _ y1).drewN n2)).copy c0 HN.out.1 HN.out.2.1 (by have h1 := HN.out.1; have h2 := HN.out.2.2; rw [← h1]; simp; omega)
        rw [List.nil_append] at oy3
        obtain ⟨ay3, cy3, ey3, _⟩ := oy3.form
        rw [← HN.out.1] at ey3
        subst ey3
        refine wpOp_of rfl rfl ?_
        refine wp_append_run qy3 rfl rfl rfl ?_
        try dsimp only
        have ky3 : Kp (fun _ => False) w1 y3 := oy3.kp
        refine ⟨fun _ => ky3, ?_⟩
        try simp only [List.setIfInBounds_toArray, List.set_cons_succ, List.set_cons_zero]
        refine anyL_all (rs := [4]) (by kernel_rfl) (by simp) ?_
        intro n4 i hi
        simp only [List.mem_cons, List.not_mem_nil, or_false] at hi
        obtain rfl := hi
        refine wpOp_of rfl rfl ?_
        go_simp
        obtain ⟨py5, hpy5⟩ : ∃ p, p = y3.heap.size := ⟨_, rfl⟩
        obtain ⟨y5, hy5⟩ : ∃ y, y = (y3.drewN n4).alloc (Obj.cells #[.int .i64 x0, .int .i64 x1, .int .i64 x2, .int .i64 x3, .slice ai mL ci] 54) := ⟨_, rfl⟩
        rw [← hy5, ← hpy5]
        have ry5 : At y5 py5 [.int .i64 x0, .int .i64 x1, .int .i64 x2, .int .i64 x3, .slice ai mL ci] := by rw [hy5, hpy5]; exact At.new (y3.drewN n4) _ _
        have ly5 : Kp (fun _ => False) y3 y5 := by rw [hy5]; exact ((Kp.refl _ y3).drewN n4).alloc _
        clear hy5 hpy5
        have oy5 := oy3.kp0 ly5
        try dsimp only
        have ky5 : Kp (fun _ => False) w1 y5 := oy5.kp
        refine ⟨fun _ => ky5, ?_⟩
        try simp only [List.setIfInBounds_toArray, List.set_cons_succ, List.set_cons_zero]
        refine anyL_all (rs := [5]) (by kernel_rfl) (by simp) ?_
        intro n6 i hi
        simp only [List.mem_cons, List.not_mem_nil, or_false] at hi
        obtain rfl := hi
        obtain ⟨vy7, y7, qy7, oy7, sy7, ty7⟩ := (oy5.kp0 ((Kp.refl _ y5).drewN n6)).apps (a := some ⟨py5, 0, none⟩) (n := 1) 1 (ns := [mm]) rfl (rows2 := [[.int .i64 x0, .int .i64 x1, .int .i64 x2, .int .i64 x3, .slice ai mL ci]]) rfl (fun i hi => by obtain rfl : i = 0 := (by simp at hi; omega); exact HRM.out) (by simpa [rowsF] using (Rd.of_at (pre := []) (post := []) (ry5.drewN n6))) (by have := HN.out.1; have := HN.out.2.2; simp; omega)
        obtain ⟨ay7, cy7, ey7, fy7⟩ := oy7.form
        obtain ⟨nny7, hny7⟩ : ∃ nn, nn = (ms ++ [mm]).length := ⟨_, rfl⟩
        rw [← hny7] at ey7
        subst ey7
        refine wpOp_of rfl rfl ?_
        refine wp_append_run qy7 rfl rfl rfl ?_
        try dsimp only
        have ky7 : Kp (fun _ => False) w1 y7 := oy7.kp
        refine ⟨fun _ => ky7, ?_⟩
        try simp only [List.setIfInBounds_toArray, List.set_cons_succ, List.set_cons_zero]
        refine anyL_takeF (i := 6) (d := 10) (v := (.slice ay7 nny7 cy7)) rfl rfl (by kernel_rfl) (by kernel_rfl) (by kernel_rfl) (fun _ _ _ h => h) hSd (by kernel_rfl) (.inl (.inl ⟨rfl, fun w' hS => by first | rfl | go_simp⟩)) (fun _ => ky7) ?_
        try simp only [List.setIfInBounds_toArray, List.set_cons_succ, List.set_cons_zero]
        refine anyL_done (by kernel_rfl) (fun nn => ?_) _
        go_wp2_with fail
        go_meet
        exact ⟨ay7, cy7, by simp, fy7.kp0 ((Kp.refl _ y7).drewN nn), ky7.drewN nn⟩
      · refine wpOp_of rfl rfl ?_
        go_simp
        obtain ⟨py8, hpy8⟩ : ∃ p, p = y1.heap.size := ⟨_, rfl⟩
        obtain ⟨y8, hy8⟩ : ∃ y, y = (y1.drewN n2).alloc (Obj.cells #[.int .i64 x0, .int .i64 x1, .int .i64 x2, .int .i64 x3, .slice ai mL ci] 54) := ⟨_, rfl⟩
        rw [← hy8, ← hpy8]
        have ry8 : At y8 py8 [.int .i64 x0, .int .i64 x1, .int .i64 x2, .int .i64 x3, .slice ai mL ci] := by rw [hy8, hpy8]; exact At.new (y1.drewN n2) _ _
        have ly8 : Kp (fun _ => False) y1 y8 := by rw [hy8]; exact ((Kp.refl _ y1).drewN n2).alloc _
        clear hy8 hpy8
        have oy8 := oy1.kp0 ly8
        try dsimp only
        have ky8 : Kp (fun _ => False) w1 y8 := oy8.kp
        refine ⟨fun _ => ky8, ?_⟩
        try simp only [List.setIfInBounds_toArray, List.set_cons_succ, List.set_cons_zero]
        refine anyL_all (rs := [2]) (by kernel_rfl) (by simp) ?_
        intro n9 i hi
        simp only [List.mem_cons, List.not_mem_nil, or_false] at hi
        obtain rfl := hi
        obtain ⟨vy10, y10, qy10, oy10, sy10, ty10⟩ := (oy8.kp0 ((Kp.refl _ y8).drewN n9)).copy c0 HN.out.1 HN.out.2.1 (by have h1 := HN.out.1; have h2 := HN.out.2.2; rw [← h1]; simp; omega)
        rw [List.nil_append] at oy10
        obtain ⟨ay10, cy10, ey10, _⟩ := oy10.form
        rw [← HN.out.1] at ey10
        subst ey10
        refine wpOp_of rfl rfl ?_
        refine wp_append_run qy10 rfl rfl rfl ?_
        have ry10 := keepRow (oy8.kp0 ((Kp.refl _ y8).drewN n9)) (ry8.drewN n9) ty10
        try dsimp only
        have ky10 : Kp (fun _ => False) w1 y10 := oy10.kp
        refine ⟨fun _ => ky10, ?_⟩
        try simp only [List.setIfInBounds_toArray, List.set_cons_succ, List.set_cons_zero]
        refine anyL_all (rs := [5]) (by kernel_rfl) (by simp) ?_
        intro n11 i hi
        simp only [List.mem_cons, List.not_mem_nil, or_false] at hi
        obtain rfl := hi
        obtain ⟨vy12, y12, qy12, oy12, sy12, ty12⟩ := (oy10.kp0 ((Kp.refl _ y10).drewN n11)).apps (a := some ⟨py8, 0, none⟩) (n := 1) 1 (ns := [mm]) rfl (rows2 := [[.int .i64 x0, .int .i64 x1, .int .i64 x2, .int .i64 x3, .slice ai mL ci]]) rfl (fun i hi => by obtain rfl : i = 0 := (by simp at hi; omega); exact HRM.out) (by simpa [rowsF] using (Rd.of_at (pre := []) (post := []) (ry10.drewN n11))) (by have := HN.out.1; have := HN.out.2.2; simp; omega)
        obtain ⟨ay12, cy12, ey12, fy12⟩ := oy12.form
        obtain ⟨nny12, hny12⟩ : ∃ nn, nn = (ms ++ [mm]).length := ⟨_, rfl⟩
        rw [← hny12] at ey12
        subst ey12
        refine wpOp_of rfl rfl ?_
        refine wp_append_run qy12 rfl rfl rfl ?_
        try dsimp only
        have ky12 : Kp (fun _ => False) w1 y12 := oy12.kp
        refine ⟨fun _ => ky12, ?_⟩
        try simp only [List.setIfInBounds_toArray, List.set_cons_succ, List.set_cons_zero]
        refine anyL_takeF (i := 6) (d := 10) (v := (.slice ay12 nny12 cy12)) rfl rfl (by kernel_rfl) (by kernel_rfl) (by kernel_rfl) (fun _ _ _ h => h) hSd (by kernel_rfl) (.inl (.inl ⟨rfl, fun w' hS => by first | rfl | go_simp⟩)) (fun _ => ky12) ?_
        try simp only [List.setIfInBounds_toArray, List.set_cons_succ, List.set_cons_zero]
        refine anyL_done (by kernel_rfl) (fun nn => ?_) _
        go_wp2_with fail
        go_meet
        exact ⟨ay12, cy12, by simp, fy12.kp0 ((Kp.refl _ y12).drewN nn), ky12.drewN nn⟩
    · refine wpOp_of rfl rfl ?_
      go_simp
      obtain ⟨py13, hpy13⟩ : ∃ p, p = z0.heap.size := ⟨_, rfl⟩
      obtain ⟨y13, hy13⟩ : ∃ y, y = (z0.drewN n0).alloc (Obj.cells #[.int .i64 x0, .int .i64 x1, .int .i64 x2, .int .i64 x3, .slice ai mL ci] 54) := ⟨_, rfl⟩
      rw [← hy13, ← hpy13]
      have ry13 : At y13 py13 [.int .i64 x0, .int .i64 x1, .int .i64 x2, .int .i64 x3, .slice ai mL ci] := by rw [hy13, hpy13]; exact At.new (z0.drewN n0) _ _
      have ly13 : Kp (fun _ => False) z0 y13 := by rw [hy13]; exact ((Kp.refl _ z0).drewN n0).alloc _
      clear hy13 hpy13
      try dsimp only
      have ky13 : Kp (fun _ => False) w1 y13 := kz0.trans ly13
      refine ⟨fun _ => ky13, ?_⟩
      try simp only [List.setIfInBounds_toArray, List.set_cons_succ, List.set_cons_zero]
      refine anyL_all (rs := [0]) (by kernel_rfl) (by simp) ?_
      intro n14 i hi
      simp only [List.mem_cons, List.not_mem_nil, or_false] at hi
      obtain rfl := hi
      refine wpOp_of rfl rfl ?_
      go_simp
      have oy15 := OwnM.empty (ky13.drewN n14)
      obtain ⟨py15, hpy15⟩ : ∃ p, p = y13.heap.size := ⟨_, rfl⟩
      obtain ⟨y15, hy15⟩ : ∃ y, y = (y13.drewN n14).alloc (Obj.cells #[] 54) := ⟨_, rfl⟩
      rw [← hy15, ← hpy15]
      have oy15 : OwnM w1 y15 (.slice (some ⟨py15, 0, none⟩) 0 0) [] := by rw [hy15, hpy15]; exact oy15
      have ly15 : Kp (fun _ => False) y13 y15 := by rw [hy15]; exact ((Kp.refl _ y13).drewN n14).alloc _
      clear hy15 hpy15
      have ry15 := ly15.at ry13 (fun h => h)
      try dsimp only
      have ky15 : Kp (fun _ => False) w1 y15 := oy15.kp
      refine ⟨fun _ => ky15, ?_⟩
      try simp only [List.setIfInBounds_toArray, List.set_cons_succ, List.set_cons_zero]
      refine anyL_all (rs := [2]) (by kernel_rfl) (by simp) ?_
      intro n16 i hi
      simp only [List.mem_cons, List.not_mem_nil, or_false] at hi
      obtain rfl := hi
      obtain ⟨vy17, y17, qy17, oy17, sy17, ty17⟩ := (oy15.kp0 ((Kp.refl _ y15).drewN n16)).copy c0 HN.out.1 HN.out.2.1 (by have h1 := HN.out.1; have h2 := HN.out.2.2; rw [← h1]; simp; omega)
      rw [List.nil_append] at oy17
      obtain ⟨ay17, cy17, ey17, _⟩ := oy17.form
      rw [← HN.out.1] at ey17
      subst ey17
      refine wpOp_of rfl rfl ?_
      refine wp_append_run qy17 rfl rfl rfl ?_
      have ry17 := keepRow (oy15.kp0 ((Kp.refl _ y15).drewN n16)) (ry15.drewN n16) ty17
      try dsimp only
      have ky17 : Kp (fun _ => False) w1 y17 := oy17.kp
      refine ⟨fun _ => ky17, ?_⟩
      try simp only [List.setIfInBounds_toArray, List.set_cons_succ, List.set_cons_zero]
      refine anyL_all (rs := [5]) (by kernel_rfl) (by simp) ?_
      intro n18 i hi
      simp only [List.mem_cons, List.not_mem_nil, or_false] at hi
      obtain rfl := hi
      obtain ⟨vy19, y19, qy19, oy19, sy19, ty19⟩ := (oy17.kp0 ((Kp.refl _ y17).drewN n18)).apps (a := some ⟨py13, 0, none⟩) (n := 1) 1 (ns := [mm]) rfl (rows2 := [[.int .i64 x0, .int .i64 x1, .int .i64 x2, .int .i64 x3, .slice ai mL ci]]) rfl (fun i hi => by obtain rfl : i = 0 := (by simp at hi; omega); exact HRM.out) (by simpa [rowsF] using (Rd.of_at (pre := []) (post := []) (ry17.drewN n18))) (by have := HN.out.1; have := HN.out.2.2; simp; omega)
      obtain ⟨ay19, cy19, ey19, fy19⟩ := oy19.form
      obtain ⟨nny19, hny19⟩ : ∃ nn, nn = (ms ++ [mm]).length := ⟨_, rfl⟩
      rw [← hny19] at ey19
      subst ey19
      refine wpOp_of rfl rfl ?_
      refine wp_append_run qy19 rfl rfl rfl ?_
      try dsimp only
      have ky19 : Kp (fun _ => False) w1 y19 := oy19.kp
      refine ⟨fun _ => ky19, ?_⟩
      try simp only [List.setIfInBounds_toArray, List.set_cons_succ, List.set_cons_zero]
      refine anyL_takeF (i := 6) (d := 10) (v := (.slice ay19 nny19 cy19)) rfl rfl (by kernel_rfl) (by kernel_rfl) (by kernel_rfl) (fun _ _ _ h => h) hSd (by kernel_rfl) (.inl (.inl ⟨rfl, fun w' hS => by first | rfl | go_simp⟩)) (fun _ => ky19) ?_
      try simp only [List.setIfInBounds_toArray, List.set_cons_succ, List.set_cons_zero]
      refine anyL_done (by kernel_rfl) (fun nn => ?_) _
      go_wp2_with fail
      go_meet
      exact ⟨ay19, cy19, by simp, fy19.kp0 ((Kp.refl _ y19).drewN nn), ky19.drewN nn⟩
  case rest =>
    obtain ⟨am, cm, rfl, hrm, k2⟩ := hcut
    obtain ⟨nm, hnm⟩ : ∃ nm, nm = (ms ++ [mm]).length := ⟨_, rfl⟩
    have CB := big_any am a2 nm cm n2 c2 (ms ++ [mm]) _ hnm hrm HNA.out.2.2.2.2.2.2.2.2.2.2
    rw [← hnm]
    rw [hB] at CB
    have CB := Lib.hid CB
    have CB2 := fun w' => big3 a3 n3 c3 w'
    rw [hB3] at CB2
    have CB2 := Lib.hid CB2
    have K2 := Lib.hid (K01.out.trans k2)
    have RM := Lib.hid (And.intro hrm hnm)
    clear hrm k2 hB hnm hB3
    go_wp2_with fail
    go_at_call 16
    refine CB.out.mono ?_
    rintro e w3 ⟨rfl, k3⟩
    have K3 := Lib.hid k3
    clear k3 CB
    go_wp2_with fail
    go_at_call 16
    refine (CB2.out _).mono ?_
    rintro e w4 ⟨rfl, k4⟩
    have K4 := Lib.hid (K3.out.trans k4)
    clear k4 CB2 K3
    go_wp2_with fail
    go_ret
    exact ⟨rfl, (K2.out.trans K4.out).below (fun _ _ h => h)⟩
theorem bulkT_items (m : List (List Id)) : m.length ≤ bulkT m := by
  induction m with
  | nil => simp [bulkT]
  | cons a r ih => simp only [bulkT, List.map_cons, List.sum_cons, List.length_cons] at *; omega
theorem bulk_chunks (m : List (List Id)) (h : bulkT m ≤ 300) : ∀ j, j < m.length → (itn m j).length ≤ 300 := by
  intro j hj
  have : ∀ (m : List (List Id)) j, j < m.length → (itn m j).length ≤ bulkT m := by
    intro m
    induction m with
    | nil => intro j hj; cases hj
    | cons a r ih =>
      intro j hj
      have e : bulkT (a :: r) = a.length + 1 + bulkT r := by simp [bulkT]
      cases j with
      | zero => show a.length ≤ _; omega
      | succ j => have := ih j (by simpa using hj); show (itn r j).length ≤ _; omega
  have := this m j hj
  omega
set_option maxHeartbeats 8000000 in
set_option maxRecDepth 20000 in
theorem alive_main (a0 ai a2 a3 : Option Addr) (n0 c0 mL ci n2 c2 n3 c3 : Nat) (x0 x1 x2 x3 : Int) (ms : List (List (List Id))) (mm : List (List Id)) (AL BL : List Id) (w : World) (hn0 : n0 = ms.length) (hmL : mL = mm.length) (hn2 : n2 = AL.length) (hn3 : n3 = BL.length) (hm : RdM w a0 ms) (hmm : RdT w ai mm) (hmc : mL ≤ ci ∧ mL ≤ 2000000) (hl2 : RdI w a2 AL) (hl3 : RdI w a3 BL) (hbk : bulkM (ms ++ [mm]) ≤ 3000000) (hn8 : n0 ≤ 1099998) (hB : bigB (ms ++ [mm]) n2 = false) (hB3 : decide (200 < n3) = false) :
    Calls Try.prog 7 #[.slice a0 n0 c0, .agg #[.int .i64 x0, .int .i64 x1, .int .i64 x2, .int .i64 x3, .slice ai mL ci], .slice a2 n2 c2, .slice a3 n3 c3] w fun e w' => e = .returned (.bool true) ∧ Below w.heap.size w w' := by
  have HQ := Lib.hid (bigB_no2 hB)
  have H3B := Lib.hid (show n3 ≤ 200 by simpa using hB3)
  obtain ⟨bx, hbx⟩ : ∃ bx, bx = w.heap.size := ⟨_, rfl⟩
  obtain ⟨wb, hwb⟩ : ∃ wb, wb = w.alloc (.cells #[.int .i64 x0, .int .i64 x1, .int .i64 x2, .int .i64 x3, .slice ai mL ci] 54) := ⟨_, rfl⟩
  have kb : Kp (fun _ => False) w wb := by rw [hwb]; exact (Kp.refl _ w).alloc _
  have ab : At wb bx [.int .i64 x0, .int .i64 x1, .int .i64 x2, .int .i64 x3, .slice ai mL ci] := by rw [hwb, hbx]; exact At.new w _ _
  have HWB := Lib.hid (And.intro kb ab)
  have HN := Lib.hid (show n0 = ms.length ∧ RdM w a0 ms ∧ n0 ≤ 1099998 ∧ mL = mm.length ∧ RdT w ai mm ∧ (mL ≤ ci ∧ mL ≤ 2000000) ∧ n2 = AL.length ∧ n3 = BL.length ∧ RdI w a2 AL ∧ RdI w a3 BL ∧ bulkM (ms ++ [mm]) ≤ 3000000 from ⟨hn0, hm, hn8, hmL, hmm, hmc, hn2, hn3, hl2, hl3, hbk⟩)
  clear kb ab hn0 hmL hn2 hn3 hm hmm hmc hl2 hl3 hbk hn8
  go_enter Try.func7, Try.ntmps7
  go_wp2_with fail
  rw [← hwb, ← hbx]
  clear hwb hbx
  go_at_call 15
  refine (awake_any _).mono ?_
  rintro e w1 ⟨rfl, k1⟩
  have k01 := HWB.out.1.trans k1
  have ab1 := k1.at HWB.out.2 (fun h => h)
  have HB := Lib.hid (show w1.cell? ⟨bx, 0, none⟩ = some (.int .i64 x0) ∧ w1.cell? ⟨bx, 1, none⟩ = some (.int .i64 x1) ∧ w1.cell? ⟨bx, 2, none⟩ = some (.int .i64 x2) ∧ w1.cell? ⟨bx, 3, none⟩ = some (.int .i64 x3) ∧ w1.cell? ⟨bx, 4, none⟩ = some (.slice ai mL ci) from ⟨ab1.cell 0, ab1.cell 1, ab1.cell 2, ab1.cell 3, ab1.cell 4⟩)
  have HRM := Lib.hid (show RowM w1 [.int .i64 x0, .int .i64 x1, .int .i64 x2, .int .i64 x3, .slice ai mL ci] mm from ⟨x0, x1, x2, x3, ai, ci, by rw [HN.out.2.2.2.1], HN.out.2.2.2.2.1.ge (k01.mono (fun _ _ h => h.elim)), by rw [← HN.out.2.2.2.1]; exact HN.out.2.2.2.2.2.1.1, by rw [← HN.out.2.2.2.1]; exact HN.out.2.2.2.2.2.1.2⟩)
  have HNA := Lib.hid HN.out
  have HN := Lib.hid (show n0 = ms.length ∧ RdM w1 a0 ms ∧ n0 ≤ 1099998 from ⟨HNA.out.1, HNA.out.2.1.kp0 k01, HNA.out.2.2.1⟩)
  have K01 := Lib.hid k01
  clear k1 k01 ab1 HWB
  go_wp2_with fail
  go_upto_region 2 with fail
  go_cut [10] (fun v wx => ∃ a c, v = .slice a (ms ++ [mm]).length c ∧ RdM wx a (ms ++ [mm]) ∧ Kp (fun _ => False) w1 wx)
  case first =>
    refine region_L (S := fun w' => Kp (fun _ => False) w1 w') [] rfl ?_
    have hSd : ∀ (w' : World) (n' : Nat), Kp (fun _ => False) w1 w' → Kp (fun _ => False) w1 (w'.drewN n') := fun w' n' h => h.drewN n'
    have hS0 : Kp (fun _ => False) w1 w1.drew := (Kp.refl _ w1).drew
    refine anyL_world (fun w' => Kp (fun _ => False) w1 w') hS0 ?_
    clear hS0
    intro z0 kz0
    refine anyL_takeF (i := 1) (d := 21) (v := (.slice a0 n0 c0)) rfl rfl (by kernel_rfl) (by kernel_rfl) (by kernel_rfl) (fun _ _ _ h => h) hSd (by kernel_rfl) (.inl (.inl ⟨rfl, fun w' hS => by first | rfl | go_simp⟩)) (fun _ => kz0) ?_
    try simp only [List.setIfInBounds_toArray, List.set_cons_succ, List.set_cons_zero]
    refine anyL_takeD (i := 3) (d := 23) (v := (.agg #[.int .i64 x0, .int .i64 x1, .int .i64 x2, .int .i64 x3, .slice ai mL ci])) rfl rfl (by kernel_rfl) (by kernel_rfl) (by kernel_rfl) (fun _ _ _ h => h) hSd (by kernel_rfl) (.inl (.inl ⟨rfl, fun w' hS => by have h0 := hS.cell HB.out.1 (fun h => h); have h1 := hS.cell HB.out.2.1 (fun h => h); have h2 := hS.cell HB.out.2.2.1 (fun h => h); have h3 := hS.cell HB.out.2.2.2.1 (fun h => h); have h4 := hS.cell HB.out.2.2.2.2 (fun h => h); go_simp⟩)) kz0 ?_
    try simp only [List.setIfInBounds_toArray, List.set_cons_succ, List.set_cons_zero]
    refine anyL_all (rs := [0, 4]) (by kernel_rfl) (by simp) ?_
    intro n0 i hi
    simp only [List.mem_cons, List.not_mem_nil, or_false] at hi
    rcases hi with rfl | rfl
    · refine wpOp_of rfl rfl ?_
      go_simp
      have oy1 := OwnM.empty (kz0.drewN n0)
      obtain ⟨py1, hpy1⟩ : ∃ p, p = z0.heap.size := ⟨_, rfl⟩
      obtain ⟨y1, hy1⟩ : ∃ y, y = (z0.drewN n0).alloc (Obj.cells #[] 54) := ⟨_, rfl⟩
      rw [← hy1, ← hpy1]
      have oy1 : OwnM w1 y1 (.slice (some ⟨py1, 0, none⟩) 0 0) [] := by rw [hy1, hpy1]; exact oy1
      have ly1 : Kp (fun _ => False) z0 y1 := by rw [hy1]; exact ((Kp.refl _ z0).drewN n0).alloc _
      clear hy1 hpy1
      try dsimp only
      have ky1 : Kp (fun _ => False) w1 y1 := oy1.kp
      refine ⟨fun _ => ky1, ?_⟩
      try simp only [List.setIfInBounds_toArray, List.set_cons_succ, List.set_cons_zero]
      refine anyL_all (rs := [2, 4]) (by kernel_rfl) (by simp) ?_
      intro n2 i hi
      simp only [List.mem_cons, List.not_mem_nil, or_false] at hi
      rcases hi with rfl | rfl
      · obtain ⟨vy3, y3, qy3, oy3, sy3, ty3⟩ := (oy1.kp0 ((Kp.refl _ y1).drewN n2)).copy c0 HN.out.1 HN.out.2.1 (by have h1 := HN.out.1; have h2 := HN.out.2.2; rw [← h1]; simp; omega)
        rw [List.nil_append] at oy3
        obtain ⟨ay3, cy3, ey3, _⟩ := oy3.form
        rw [← HN.out.1] at ey3
        subst ey3
        refine wpOp_of rfl rfl ?_
        refine wp_append_run qy3 rfl rfl rfl ?_
        try dsimp only
        have ky3 : Kp (fun _ => False) w1 y3 := oy3.kp
        refine ⟨fun _ => ky3, ?_⟩
        try simp only [List.setIfInBounds_toArray, List.set_cons_succ, List.set_cons_zero]
        refine anyL_all (rs := [4]) (by kernel_rfl) (by simp) ?_
        intro n4 i hi
        simp only [List.mem_cons, List.not_mem_nil, or_false] at hi
        obtain rfl := hi
        refine wpOp_of rfl rfl ?_
        go_simp
        obtain ⟨py5, hpy5⟩ : ∃ p, p = y3.heap.size := ⟨_, rfl⟩
        obtain ⟨y5, hy5⟩ : ∃ y, y = (y3.drewN n4).alloc (Obj.cells #[.int .i64 x0, .int .i64 x1, .int .i64 x2, .int .i64 x3, .slice ai mL ci] 54) := ⟨_, rfl⟩
        rw [← hy5, ← hpy5]
        have ry5 : At y5 py5 [.int .i64 x0, .int .i64 x1, .int .i64 x2, .int .i64 x3, .slice ai mL ci] := by rw [hy5, hpy5]; exact At.new (y3.drewN n4) _ _
        have ly5 : Kp (fun _ => False) y3 y5 := by rw [hy5]; exact ((Kp.refl _ y3).drewN n4).alloc _
        clear hy5 hpy5
        have oy5 := oy3.kp0 ly5
        try dsimp only
        have ky5 : Kp (fun _ => False) w1 y5 := oy5.kp
        refine ⟨fun _ => ky5, ?_⟩
        try simp only [List.setIfInBounds_toArray, List.set_cons_succ, List.set_cons_zero]
        refine anyL_all (rs := [5]) (by kernel_rfl) (by simp) ?_
        intro n6 i hi
        simp only [List.mem_cons, List.not_mem_nil, or_false] at hi
        obtain rfl := hi
        obtain ⟨vy7, y7, qy7, oy7, sy7, ty7⟩ := (oy5.kp0 ((Kp.refl _ y5).drewN n6)).apps (a := some ⟨py5, 0, none⟩) (n := 1) 1 (ns := [mm]) rfl (rows2 := [[.int .i64 x0, .int .i64 x1, .int .i64 x2, .int .i64 x3, .slice ai mL ci]]) rfl (fun i hi => by obtain rfl : i = 0 := (by simp at hi; omega); exact HRM.out) (by simpa [rowsF] using (Rd.of_at (pre := []) (post := []) (ry5.drewN n6))) (by have := HN.out.1; have := HN.out.2.2; simp; omega)
        obtain ⟨ay7, cy7, ey7, fy7⟩ := oy7.form
        obtain ⟨nny7, hny7⟩ : ∃ nn, nn = (ms ++ [mm]).length := ⟨_, rfl⟩
        rw [← hny7] at ey7
        subst ey7
        refine wpOp_of rfl rfl ?_
        refine wp_append_run qy7 rfl rfl rfl ?_
        try dsimp only
        have ky7 : Kp (fun _ => False) w1 y7 := oy7.kp
        refine ⟨fun _ => ky7, ?_⟩
        try simp only [List.setIfInBounds_toArray, List.set_cons_succ, List.set_cons_zero]
        refine anyL_takeF (i := 6) (d := 10) (v := (.slice ay7 nny7 cy7)) rfl rfl (by kernel_rfl) (by kernel_rfl) (by kernel_rfl) (fun _ _ _ h => h) hSd (by kernel_rfl) (.inl (.inl ⟨rfl, fun w' hS => by first | rfl | go_simp⟩)) (fun _ => ky7) ?_
        try simp only [List.setIfInBounds_toArray, List.set_cons_succ, List.set_cons_zero]
        refine anyL_done (by kernel_rfl) (fun nn => ?_) _
        go_wp2_with fail
        go_meet
        exact ⟨ay7, cy7, by simp, fy7.kp0 ((Kp.refl _ y7).drewN nn), ky7.drewN nn⟩
      · refine wpOp_of rfl rfl ?_
        go_simp
        obtain ⟨py8, hpy8⟩ : ∃ p, p = y1.heap.size := ⟨_, rfl⟩
        obtain ⟨y8, hy8⟩ : ∃ y, y = (y1.drewN n2).alloc (Obj.cells #[.int .i64 x0, .int .i64 x1, .int .i64 x2, .int .i64 x3, .slice ai mL ci] 54) := ⟨_, rfl⟩
        rw [← hy8, ← hpy8]
        have ry8 : At y8 py8 [.int .i64 x0, .int .i64 x1, .int .i64 x2, .int .i64 x3, .slice ai mL ci] := by rw [hy8, hpy8]; exact At.new (y1.drewN n2) _ _
        have ly8 : Kp (fun _ => False) y1 y8 := by rw [hy8]; exact ((Kp.refl _ y1).drewN n2).alloc _
        clear hy8 hpy8
        have oy8 := oy1.kp0 ly8
        try dsimp only
        have ky8 : Kp (fun _ => False) w1 y8 := oy8.kp
        refine ⟨fun _ => ky8, ?_⟩
        try simp only [List.setIfInBounds_toArray, List.set_cons_succ, List.set_cons_zero]
        refine anyL_all (rs := [2]) (by kernel_rfl) (by simp) ?_
        intro n9 i hi
        simp only [List.mem_cons, List.not_mem_nil, or_false] at hi
        obtain rfl := hi
        obtain ⟨vy10, y10, qy10, oy10, sy10, ty10⟩ := (oy8.kp0 ((Kp.refl _ y8).drewN n9)).copy c0 HN.out.1 HN.out.2.1 (by have h1 := HN.out.1; have h2 := HN.out.2.2; rw [← h1]; simp; omega)
        rw [List.nil_append] at oy10
        obtain ⟨ay10, cy10, ey10, _⟩ := oy10.form
        rw [← HN.out.1] at ey10
        subst ey10
        refine wpOp_of rfl rfl ?_
        refine wp_append_run qy10 rfl rfl rfl ?_
        have ry10 := keepRow (oy8.kp0 ((Kp.refl _ y8).drewN n9)) (ry8.drewN n9) ty10
        try dsimp only
        have ky10 : Kp (fun _ => False) w1 y10 := oy10.kp
        refine ⟨fun _ => ky10, ?_⟩
        try simp only [List.setIfInBounds_toArray, List.set_cons_succ, List.set_cons_zero]
        refine anyL_all (rs := [5]) (by kernel_rfl) (by simp) ?_
        intro n11 i hi
        simp only [List.mem_cons, List.not_mem_nil, or_false] at hi
        obtain rfl := hi
        obtain ⟨vy12, y12, qy12, oy12, sy12, ty12⟩ := (oy10.kp0 ((Kp.refl _ y10).drewN n11)).apps (a := some ⟨py8, 0, none⟩) (n := 1) 1 (ns := [mm]) rfl (rows2 := [[.int .i64 x0, .int .i64 x1, .int .i64 x2, .int .i64 x3, .slice ai mL ci]]) rfl (fun i hi => by obtain rfl : i = 0 := (by simp at hi; omega); exact HRM.out) (by simpa [rowsF] using (Rd.of_at (pre := []) (post := []) (ry10.drewN n11))) (by have := HN.out.1; have := HN.out.2.2; simp; omega)
        obtain ⟨ay12, cy12, ey12, fy12⟩ := oy12.form
        obtain ⟨nny12, hny12⟩ : ∃ nn, nn = (ms ++ [mm]).length := ⟨_, rfl⟩
        rw [← hny12] at ey12
        subst ey12
        refine wpOp_of rfl rfl ?_
        refine wp_append_run qy12 rfl rfl rfl ?_
        try dsimp only
        have ky12 : Kp (fun _ => False) w1 y12 := oy12.kp
        refine ⟨fun _ => ky12, ?_⟩
        try simp only [List.setIfInBounds_toArray, List.set_cons_succ, List.set_cons_zero]
        refine anyL_takeF (i := 6) (d := 10) (v := (.slice ay12 nny12 cy12)) rfl rfl (by kernel_rfl) (by kernel_rfl) (by kernel_rfl) (fun _ _ _ h => h) hSd (by kernel_rfl) (.inl (.inl ⟨rfl, fun w' hS => by first | rfl | go_simp⟩)) (fun _ => ky12) ?_
        try simp only [List.setIfInBounds_toArray, List.set_cons_succ, List.set_cons_zero]
        refine anyL_done (by kernel_rfl) (fun nn => ?_) _
        go_wp2_with fail
        go_meet
        exact ⟨ay12, cy12, by simp, fy12.kp0 ((Kp.refl _ y12).drewN nn), ky12.drewN nn⟩
    · refine wpOp_of rfl rfl ?_
      go_simp
      obtain ⟨py13, hpy13⟩ : ∃ p, p = z0.heap.size := ⟨_, rfl⟩
      obtain ⟨y13, hy13⟩ : ∃ y, y = (z0.drewN n0).alloc (Obj.cells #[.int .i64 x0, .int .i64 x1, .int .i64 x2, .int .i64 x3, .slice ai mL ci] 54) := ⟨_, rfl⟩
      rw [← hy13, ← hpy13]
      have ry13 : At y13 py13 [.int .i64 x0, .int .i64 x1, .int .i64 x2, .int .i64 x3, .slice ai mL ci] := by rw [hy13, hpy13]; exact At.new (z0.drewN n0) _ _
      have ly13 : Kp (fun _ => False) z0 y13 := by rw [hy13]; exact ((Kp.refl _ z0).drewN n0).alloc _
      clear hy13 hpy13
      try dsimp only
      have ky13 : Kp (fun _ => False) w1 y13 := kz0.trans ly13
      refine ⟨fun _ => ky13, ?_⟩
      try simp only [List.setIfInBounds_toArray, List.set_cons_succ, List.set_cons_zero]
      refine anyL_all (rs := [0]) (by kernel_rfl) (by simp) ?_
      intro n14 i hi
      simp only [List.mem_cons, List.not_mem_nil, or_false] at hi
      obtain rfl := hi
      refine wpOp_of rfl rfl ?_
      go_simp
      have oy15 := OwnM.empty (ky13.drewN n14)
      obtain ⟨py15, hpy15⟩ : ∃ p, p = y13.heap.size := ⟨_, rfl⟩
      obtain ⟨y15, hy15⟩ : ∃ y, y = (y13.drewN n14).alloc (Obj.cells #[] 54) := ⟨_, rfl⟩
      rw [← hy15, ← hpy15]
      have oy15 : OwnM w1 y15 (.slice (some ⟨py15, 0, none⟩) 0 0) [] := by rw [hy15, hpy15]; exact oy15
      have ly15 : Kp (fun _ => False) y13 y15 := by rw [hy15]; exact ((Kp.refl _ y13).drewN n14).alloc _
      clear hy15 hpy15
      have ry15 := ly15.at ry13 (fun h => h)
      try dsimp only
      have ky15 : Kp (fun _ => False) w1 y15 := oy15.kp
      refine ⟨fun _ => ky15, ?_⟩
      try simp only [List.setIfInBounds_toArray, List.set_cons_succ, List.set_cons_zero]
      refine anyL_all (rs := [2]) (by kernel_rfl) (by simp) ?_
      intro n16 i hi
      simp only [List.mem_cons, List.not_mem_nil, or_false] at hi
      obtain rfl := hi
      obtain ⟨vy17, y17, qy17, oy17, sy17, ty17⟩ := (oy15.kp0 ((Kp.refl _ y15).drewN n16)).copy c0 HN.out.1 HN.out.2.1 (by have h1 := HN.out.1; have h2 := HN.out.2.2; rw [← h1]; simp; omega)
      rw [List.nil_append] at oy17
      obtain ⟨ay17, cy17, ey17, _⟩ := oy17.form
      rw [← HN.out.1] at ey17
      subst ey17
      refine wpOp_of rfl rfl ?_
      refine wp_append_run qy17 rfl rfl rfl ?_
      have ry17 := keepRow (oy15.kp0 ((Kp.refl _ y15).drewN n16)) (ry15.drewN n16) ty17
      try dsimp only
      have ky17 : Kp (fun _ => False) w1 y17 := oy17.kp
      refine ⟨fun _ => ky17, ?_⟩
      try simp only [List.setIfInBounds_toArray, List.set_cons_succ, List.set_cons_zero]
      refine anyL_all (rs := [5]) (by kernel_rfl) (by simp) ?_
      intro n18 i hi
      simp only [List.mem_cons, List.not_mem_nil, or_false] at hi
      obtain rfl := hi
      obtain ⟨vy19, y19, qy19, oy19, sy19, ty19⟩ := (oy17.kp0 ((Kp.refl _ y17).drewN n18)).apps (a := some ⟨py13, 0, none⟩) (n := 1) 1 (ns := [mm]) rfl (rows2 := [[.int .i64 x0, .int .i64 x1, .int .i64 x2, .int .i64 x3, .slice ai mL ci]]) rfl (fun i hi => by obtain rfl : i = 0 := (by simp at hi; omega); exact HRM.out) (by simpa [rowsF] using (Rd.of_at (pre := []) (post := []) (ry17.drewN n18))) (by have := HN.out.1; have := HN.out.2.2; simp; omega)
      obtain ⟨ay19, cy19, ey19, fy19⟩ := oy19.form
      obtain ⟨nny19, hny19⟩ : ∃ nn, nn = (ms ++ [mm]).length := ⟨_, rfl⟩
      rw [← hny19] at ey19
      subst ey19
      refine wpOp_of rfl rfl ?_
      refine wp_append_run qy19 rfl rfl rfl ?_
      try dsimp only
      have ky19 : Kp (fun _ => False) w1 y19 := oy19.kp
      refine ⟨fun _ => ky19, ?_⟩
      try simp only [List.setIfInBounds_toArray, List.set_cons_succ, List.set_cons_zero]
      refine anyL_takeF (i := 6) (d := 10) (v := (.slice ay19 nny19 cy19)) rfl rfl (by kernel_rfl) (by kernel_rfl) (by kernel_rfl) (fun _ _ _ h => h) hSd (by kernel_rfl) (.inl (.inl ⟨rfl, fun w' hS => by first | rfl | go_simp⟩)) (fun _ => ky19) ?_
      try simp only [List.setIfInBounds_toArray, List.set_cons_succ, List.set_cons_zero]
      refine anyL_done (by kernel_rfl) (fun nn => ?_) _
      go_wp2_with fail
      go_meet
      exact ⟨ay19, cy19, by simp, fy19.kp0 ((Kp.refl _ y19).drewN nn), ky19.drewN nn⟩
  case rest =>
    obtain ⟨am, cm, rfl, hrm, k2⟩ := hcut
    obtain ⟨nm, hnm⟩ : ∃ nm, nm = (ms ++ [mm]).length := ⟨_, rfl⟩
    have CB := big_any am a2 nm cm n2 c2 (ms ++ [mm]) _ hnm hrm HNA.out.2.2.2.2.2.2.2.2.2.2
    rw [← hnm]
    rw [hB] at CB
    have CB := Lib.hid CB
    have CB2 := fun w' => big3 a3 n3 c3 w'
    rw [hB3] at CB2
    have CB2 := Lib.hid CB2
    have K2 := Lib.hid (K01.out.trans k2)
    have RM := Lib.hid (And.intro hrm hnm)
    have KC := Lib.hid k2
    clear hrm k2 hB hnm hB3
    go_wp2_with fail
    go_at_call 16
    refine CB.out.mono ?_
    rintro e w3 ⟨rfl, k3⟩
    have K3 := Lib.hid k3
    clear k3 CB
    go_wp2_with fail
    go_at_call 16
    refine (CB2.out _).mono ?_
    rintro e w4 ⟨rfl, k4⟩
    have K4 := Lib.hid (K3.out.trans k4)
    clear k4 CB2 K3
    have hq := HQ.out
    have hal := allI_bulk (ms ++ [mm])
    have hal2 : allI (ms ++ [mm]) = allI ms ++ mm.flatten := by rw [allI_app, allI_one]
    have hAl : (allI ms).length ≤ 300 := by rw [hal2, List.length_append] at hal; omega
    have hms : ms.length ≤ 8 := by have := hq.1; simp at this; omega
    have kx4 := K2.out.trans K4.out
    have hn2c : n2 ≤ 200 := hq.2.2
    have hn3c : n3 ≤ 200 := H3B.out
    have hnm9 : nm ≤ 9 := by have h := RM.out.2; rw [List.length_append, List.length_singleton] at h; omega
    have hal9 : (allI (ms ++ [mm])).length ≤ 300 := by omega
    have CDA := Lib.hid (dead_any a2 a0 a3 n2 c2 n0 c0 n3 c3 AL ms BL w4 HNA.out.2.2.2.2.2.2.1 HNA.out.1 HNA.out.2.2.2.2.2.2.2.1 (HNA.out.2.2.2.2.2.2.2.2.1.kp0 kx4) (HNA.out.2.1.kp0 kx4) (HNA.out.2.2.2.2.2.2.2.2.2.1.kp0 kx4) (by have := HNA.out.1; omega))
    have CTH := Lib.hid (fun w' (k : Kp (fun _ => False) w4 w') => dead_any a2 am a3 n2 c2 nm cm n3 c3 AL (ms ++ [mm]) BL w' HNA.out.2.2.2.2.2.2.1 RM.out.2 HNA.out.2.2.2.2.2.2.2.1 (HNA.out.2.2.2.2.2.2.2.2.1.kp0 (kx4.trans k)) (RM.out.1.kp0 (K4.out.trans k)) (HNA.out.2.2.2.2.2.2.2.2.2.1.kp0 (kx4.trans k)) (by have := RM.out.2; omega))
    have CCN := Lib.hid (fun w' (k : Kp (fun _ => False) w4 w') => count_any a0 n0 c0 ms w' HNA.out.1 (HNA.out.2.1.kp0 (kx4.trans k)) (by have := HNA.out.1; omega))
    have HA2 := Lib.hid hal2
    have hn2b : n2 ≤ 200 := hq.2.2
    have hn3b : n3 ≤ 200 := H3B.out
    have hbt : bulkT mm ≤ 300 := by
      have h2 := hq.2.1
      rw [bulkM_app] at h2
      have h3 : bulkM [mm] = bulkT mm := (by simp [bulkM])
      omega
    have hmb : mL ≤ 300 := by
      have h1 := HNA.out.2.2.2.1
      have h4 : mm.length ≤ bulkT mm := bulkT_items mm
      omega
    have hcb := bulk_chunks mm hbt
    have HCB := Lib.hid hcb
    clear hq hal hal2 hms kx4 hcb hbt hn2c hn3c hnm9 hal9
    go_wp2_with fail
    go_at_call 23
    refine CDA.out.mono ?_
    rintro e w5 ⟨v5, rfl, ho5, _, k5⟩
    obtain ⟨ad, cd, rfl, hr5, _⟩ := ho5.form
    have hdl := newL_len (allI ms ++ BL) AL
    obtain ⟨DL, hDL⟩ : ∃ DL, DL = newL (allI ms ++ BL) AL := ⟨_, rfl⟩
    rw [← hDL] at hr5 hdl ⊢
    obtain ⟨X, hX⟩ : ∃ X, X = DL.length := ⟨_, rfl⟩
    rw [← hX] at hdl ⊢
    have R5 := Lib.hid (And.intro hr5 (And.intro k5 (And.intro hDL hX)))
    have hXb : X ≤ 200 := by have := HNA.out.2.2.2.2.2.2.1; omega
    clear ho5 hr5 k5 hDL hX CDA hdl
    go_wp2_with fail
    go_at_call 23
    refine (CTH.out _ R5.out.2.1).mono ?_
    rintro e w6 ⟨v6, rfl, ho6, _, k6⟩
    obtain ⟨aT, cT, rfl, hr6, _⟩ := ho6.form
    have htl := newL_len (allI (ms ++ [mm]) ++ BL) AL
    obtain ⟨TL, hTL⟩ : ∃ TL, TL = newL (allI (ms ++ [mm]) ++ BL) AL := ⟨_, rfl⟩
    rw [← hTL] at hr6 htl ⊢
    obtain ⟨Y, hY⟩ : ∃ Y, Y = TL.length := ⟨_, rfl⟩
    rw [← hY] at htl ⊢
    have R6 := Lib.hid (And.intro hr6 (And.intro k6 (And.intro hTL hY)))
    have hYb : Y ≤ 200 := by have := HNA.out.2.2.2.2.2.2.1; omega
    clear ho6 hr6 k6 hTL hY CTH htl
    go_wp2_with fail
    go_at_call 18
    refine (CCN.out _ (R5.out.2.1.trans R6.out.2.1)).mono ?_
    rintro e w7 ⟨v7, rfl, ho7, _, k7⟩
    obtain ⟨an, cn, rfl, hr7, _⟩ := ho7.form
    have hcl := cntL_len (allI ms)
    have hnl := newL_len [] (allI ms)
    obtain ⟨NL, hNL⟩ : ∃ NL, NL = newL [] (allI ms) := ⟨_, rfl⟩
    rw [hcl]
    rw [← hNL] at hnl hcl ⊢
    obtain ⟨NN, hNN⟩ : ∃ NN, NN = NL.length := ⟨_, rfl⟩
    rw [← hNN] at hnl hcl ⊢
    have hNb : NN ≤ 300 := by omega
    have R7 := Lib.hid (And.intro hr7 (And.intro k7 (And.intro hNL hNN)))
    have KW7 := Lib.hid (show Kp (fun _ => False) w w7 from ((K2.out.trans K4.out).trans (R5.out.2.1.trans R6.out.2.1)).trans k7)
    clear ho7 hr7 k7 hNL hNN CCN hcl hnl hAl
    go_wp2_with fail
    go_loopw [14, 15] (fun ov iv wr => ∃ i : Nat, i ≤ NN ∧ iv = .int .i64 i ∧ OwnI wr ov (NL.take i) ∧ (∀ g, ov.ownBlock = some g → w7.heap.size ≤ g) ∧ Kp (fun _ => False) w7 wr) (fun _ iv _ => NN - (intOf iv).toNat)
    case atStart => exact ⟨0, by omega, rfl, by simpa using OwnI.nil w7, fun g hg => by (cases hg), Kp.refl _ _⟩
    case round =>
      obtain ⟨i, hi, rfl, hov, hog, hk⟩ := hrel
      by_cases hlt : i < NN
      · have j1 : (i : Int) < NN := by omega
        have hii : i < (newL [] (allI ms)).length := by rw [← R7.out.2.2.1, ← R7.out.2.2.2]; exact hlt
        obtain ⟨b, o, e1, hr, hcn, hx16⟩ := (R7.out.1.kp0 hk).id hii
        subst e1
        have hcount : 1 ≤ (allI ms).count (idn (newL [] (allI ms)) i) := List.one_le_count_iff.2 (by
          have : idn (newL [] (allI ms)) i ∈ newL [] (allI ms) := by unfold idn; rw [List.getD_eq_getElem?_getD, List.getElem?_eq_getElem hii]; exact List.getElem_mem _
          exact ((newL_mem [] (allI ms) _).1 this).1)
        have hnot : idn (newL [] (allI ms)) i ∉ (newL [] (allI ms)).take i := nodup_take (newL_nodup (allI ms)) hii
        rw [← R7.out.2.2.1] at hr hcn hx16 hcount hnot
        obtain ⟨x, hx⟩ : ∃ x, x = idn NL i := ⟨_, rfl⟩
        rw [← hx] at hr hcn hx16 hcount hnot
        have htk : NL.take (i + 1) = NL.take i ++ [x] := by rw [hx]; exact take_snoc NL [] i (by rw [← R7.out.2.2.2]; exact hlt)
        obtain ⟨q, hq⟩ : ∃ q, q = (allI ms).count x := ⟨_, rfl⟩
        rw [← hq] at hcn hcount
        have i2 : ¬ (q : Int) < 1 := by omega
        obtain ⟨aI, cI, eI, hrI, _⟩ := hov.form
        have hlI : (NL.take i).length = i := by rw [List.length_take]; have := R7.out.2.2.2; omega
        rw [hlI] at eI
        subst eI
        obtain ⟨VA, hVA⟩ : ∃ VA, VA = idB x := ⟨_, rfl⟩
        have HVA := Lib.hid hVA
        have ql := fun w' (k : Kp (fun _ => False) wr w') => load_id (rangeAt_kp hr k (fun h => h)) hx16
        rw [idV_B, ← hVA] at ql
        have HL := Lib.hid ql
        have HL0 := Lib.hid (ql wr (Kp.refl _ _))
        have AMN := Lib.hid (show Calls Try.prog 19 #[.slice aI i cI, .agg VA] wr fun e w'' => e = .returned (.bool false) ∧ Kp (fun _ => False) wr w'' from by rw [hVA]; exact among_no aI i cI (NL.take i) hlI.symm x hx16 hnot wr hrI (by omega))
        have HX := Lib.hid (And.intro htk (And.intro hov (And.intro hog (And.intro hk (And.intro hx16 hlI)))))
        clear hr hx16 hcount hnot hx htk hq hov hog hk hrI hlI hVA ql hii
        go_wp2_with (refine wpList_wanted rfl (wp_load_run HL0.out rfl rfl ?_))
        go_at_call 19
        refine AMN.out.mono ?_
        rintro e w8 ⟨rfl, k8⟩
        have HL8 := Lib.hid (HL.out w8 k8)
        have HB8 := bs_one HX.out.2.2.2.2.1 w8
        have ka := (Kp.refl (fun _ => False) w8).alloc (.cells (idB x) 41)
        have hat : At (w8.alloc (.cells (idB x) 41)) w8.heap.size (idW x) := At.new w8 (idW x) _
        obtain ⟨v10, w10, hr10, ho10, k10, hb10⟩ := ((HX.out.2.1.kp0 k8).kp0 ka).app (by have := HX.out.2.2.2.2.2; omega) HX.out.2.2.2.2.1 hat
        rw [idV_B, ← HVA.out] at HB8
        rw [← HVA.out] at hr10
        have HR10 := Lib.hid hr10
        have HB8 := Lib.hid HB8
        have HZ := Lib.hid (And.intro ho10 (And.intro k10 (And.intro hb10 (k8.trans ka))))
        clear hr10 ho10 k10 hb10 ka hat k8 AMN HL0
        go_wp2_with (first | (refine wpList_load_run HL8.out rfl rfl rfl ?_) | (refine wpList_buildSlice_run (ps := #[(0, .agg VA)]) rfl rfl rfl (HB8.out) ?_) | (at_builtin; refine wpList_append_run _ HR10.out rfl rfl rfl rfl ?_))
        go_roundw
        case rel =>
          have hws := HX.out.2.2.2.1.size
          have hsz := HZ.out.2.2.2.size
          rw [World.size_alloc] at hsz
          refine ⟨i + 1, by omega, by go_num, by rw [HX.out.1]; exact HZ.out.1, fun g hg => ?_, ?_⟩
          · rcases HZ.out.2.2.1 with e | e
            · exact HX.out.2.2.1 g (e ▸ hg)
            · rw [hg, World.size_alloc] at e
              have := Option.some.inj e
              omega
          · exact (HX.out.2.2.2.1.trans HZ.out.2.2.2).then HZ.out.2.1 (fun j hj e => by have := HX.out.2.2.1 j e; omega)
        case measure => simp [intOf]; omega
      · obtain rfl : i = NN := by omega
        have htk : NL.take i = NL := by rw [R7.out.2.2.2, List.take_length]
        rw [htk] at hov
        obtain ⟨aI, cI, eI, hrI, _⟩ := hov.form
        rw [← R7.out.2.2.2] at eI
        subst eI
        obtain ⟨w8, hw8⟩ : ∃ w8, w8 = wr := ⟨_, rfl⟩
        rw [← hw8] at hrI hk ⊢
        have R8 := Lib.hid (And.intro hrI hk)
        clear hov hog hrI hk hw8 htk hlt
        obtain ⟨NN, hNN⟩ : ∃ NN, NN = i := ⟨_, rfl⟩
        rw [← hNN] at R7 hNb ⊢
        clear hNN hi i
        go_wp2_with fail
        go_loopw [16] (fun iv wr => ∃ i : Nat, i ≤ n2 ∧ iv = .int .i64 i ∧ Kp (fun _ => False) w8 wr) (fun iv _ => n2 - (intOf iv).toNat)
        case atStart => exact ⟨0, by omega, rfl, Kp.refl _ _⟩
        case round =>
          obtain ⟨i, hi, rfl, hk⟩ := hrel
          have HK := Lib.hid hk
          by_cases hlt : i < n2
          · have j1 : (i : Int) < n2 := by omega
            have hn2 := HNA.out.2.2.2.2.2.2.1
            have hrr := ((HNA.out.2.2.2.2.2.2.2.2.1.kp0 KW7.out).kp0 R8.out.2).kp0 hk
            obtain ⟨b, o, e1, hr⟩ := hrr.at' i (by omega)
            have hx16 := hrr.ids.idn (i := i) (by omega)
            subst e1
            have hmemx : idn AL i ∈ AL := by unfold idn; rw [List.getD_eq_getElem?_getD, List.getElem?_eq_getElem (by omega)]; exact List.getElem_mem _
            obtain ⟨x, hx⟩ : ∃ x, x = idn AL i := ⟨_, rfl⟩
            rw [← hx] at hr hx16 hmemx
            have hD : x ∈ DL ↔ x ∉ NL ∧ x ∉ BL := by
              rw [R5.out.2.2.1, newL_mem, R7.out.2.2.1, newL_mem, List.mem_append]
              constructor
              · exact fun h => ⟨fun h' => h.2 (.inl h'.1), fun h' => h.2 (.inr h')⟩
              · exact fun h => ⟨hmemx, fun h' => h'.elim (fun h1 => h.1 ⟨h1, by simp⟩) h.2⟩
            have hTD : x ∈ TL → x ∈ DL := by
              rw [R5.out.2.2.1, R6.out.2.2.1, newL_mem, newL_mem, HA2.out, List.mem_append, List.mem_append, List.mem_append]
              exact fun h => ⟨h.1, fun h' => h.2 (h'.elim (fun h1 => .inl (.inl h1)) .inr)⟩
            have ql := fun w' (k : Kp (fun _ => False) wr w') => load_id (rangeAt_kp hr k (fun h => h)) hx16
            obtain ⟨VA, hVA⟩ : ∃ VA, VA = idB x := ⟨_, rfl⟩
            rw [idV_B, ← hVA] at ql
            have HVA := Lib.hid hVA
            have HL := Lib.hid ql
            have HX := Lib.hid hx16
            have HDN := Lib.hid (And.intro R5.out.2.2.2 (((R5.out.1.kp0 R6.out.2.1).kp0 R7.out.2.1).kp0 R8.out.2))
            have HTN := Lib.hid (And.intro R6.out.2.2.2 ((R6.out.1.kp0 R7.out.2.1).kp0 R8.out.2))
            have HNN := Lib.hid (And.intro R7.out.2.2.2 R8.out.1)
            have HBN := Lib.hid (And.intro HNA.out.2.2.2.2.2.2.2.1 ((HNA.out.2.2.2.2.2.2.2.2.2.1.kp0 KW7.out).kp0 R8.out.2))
            clear hk hn2 hrr hr hx16 hmemx hx ql hVA
            by_cases hAMN : x ∈ NL
            · have hAMD : x ∉ DL := fun h => (hD.1 h).1 hAMN
              have hAMT : x ∉ TL := fun h => hAMD (hTD h)
              clear hD hTD
              have AMD := Lib.hid (show ∀ w' (k : Kp (fun _ => False) wr w'), Calls Try.prog 19 #[.slice ad X cd, .agg VA] w' fun e w'' => e = .returned (.bool false) ∧ Kp (fun _ => False) w' w'' from fun w' k => by rw [HVA.out]; exact among_no ad X cd DL HDN.out.1 x HX.out hAMD w' ((HDN.out.2.kp0 HK.out).kp0 k) (by omega))
              have AMN := Lib.hid (show ∀ w' (k : Kp (fun _ => False) wr w'), Calls Try.prog 19 #[.slice aI NN cI, .agg VA] w' fun e w'' => e = .returned (.bool true) ∧ Kp (fun _ => False) w' w'' from fun w' k => by rw [HVA.out]; exact among_yes aI NN cI NL HNN.out.1 x HX.out hAMN w' ((HNN.out.2.kp0 HK.out).kp0 k) (by omega))
              have AMT := Lib.hid (show ∀ w' (k : Kp (fun _ => False) wr w'), Calls Try.prog 19 #[.slice aT Y cT, .agg VA] w' fun e w'' => e = .returned (.bool false) ∧ Kp (fun _ => False) w' w'' from fun w' k => by rw [HVA.out]; exact among_no aT Y cT TL HTN.out.1 x HX.out hAMT w' ((HTN.out.2.kp0 HK.out).kp0 k) (by omega))
              go_upto_region 16 with fail
              refine region_L (S := fun w' => Kp (fun _ => False) wr w') [] rfl ?_
              have hSd : ∀ (w' : World) (n' : Nat), Kp (fun _ => False) wr w' → Kp (fun _ => False) wr (w'.drewN n') := fun w' n' h => h.drewN n'
              have hS0 : Kp (fun _ => False) wr wr.drew := (Kp.refl _ wr).drew
              refine anyL_world (fun w' => Kp (fun _ => False) wr w') hS0 ?_
              clear hS0
              intro z0 kz0
              refine anyL_takeF (i := 0) (d := 79) (v := (.slice ad X cd)) rfl rfl (by kernel_rfl) (by kernel_rfl) (by kernel_rfl) (fun _ _ _ h => h) hSd (by kernel_rfl) (.inl (.inl ⟨rfl, fun w' hS => by first | rfl | go_simp⟩)) (fun _ => kz0) ?_
              try simp only [List.setIfInBounds_toArray, List.set_cons_succ, List.set_cons_zero]
              refine anyL_takeF (i := 1) (d := 80) (v := (.slice (some ⟨b, o, none⟩) n2 c2)) rfl rfl (by kernel_rfl) (by kernel_rfl) (by kernel_rfl) (fun _ _ _ h => h) hSd (by kernel_rfl) (.inl (.inl ⟨rfl, fun w' hS => by first | rfl | go_simp⟩)) (fun _ => kz0) ?_
              try simp only [List.setIfInBounds_toArray, List.set_cons_succ, List.set_cons_zero]
              refine anyL_takeF (i := 2) (d := 81) (v := (.int .i64 (i : Nat))) rfl rfl (by kernel_rfl) (by kernel_rfl) (by kernel_rfl) (fun _ _ _ h => h) hSd (by kernel_rfl) (.inl (.inl ⟨rfl, fun w' hS => by first | rfl | go_simp⟩)) (fun _ => kz0) ?_
              try simp only [List.setIfInBounds_toArray, List.set_cons_succ, List.set_cons_zero]
              refine anyL_takeF (i := 3) (d := 82) (v := (.pointer (some ⟨b, o + i * 16, none⟩))) rfl rfl (by kernel_rfl) (by kernel_rfl) (by kernel_rfl) (fun _ _ _ h => h) hSd (by kernel_rfl) (.inl (.inl ⟨rfl, fun w' hS => by first | rfl | go_simp⟩)) (fun _ => kz0) ?_
              try simp only [List.setIfInBounds_toArray, List.set_cons_succ, List.set_cons_zero]
              refine anyL_takeD (i := 4) (d := 83) (v := (.agg VA)) rfl rfl (by kernel_rfl) (by kernel_rfl) (by kernel_rfl) (fun _ _ _ h => h) hSd (by kernel_rfl) (.inl (.inl ⟨rfl, fun w' hS => exec_load rfl rfl (HL.out w' hS)⟩)) kz0 ?_
              try simp only [List.setIfInBounds_toArray, List.set_cons_succ, List.set_cons_zero]
              refine anyL_takeF (i := 6) (d := 85) (v := (.slice aI NN cI)) rfl rfl (by kernel_rfl) (by kernel_rfl) (by kernel_rfl) (fun _ _ _ h => h) hSd (by kernel_rfl) (.inl (.inl ⟨rfl, fun w' hS => by first | rfl | go_simp⟩)) (fun _ => kz0) ?_
              try simp only [List.setIfInBounds_toArray, List.set_cons_succ, List.set_cons_zero]
              refine anyL_takeF (i := 7) (d := 86) (v := (.slice (some ⟨b, o, none⟩) n2 c2)) rfl rfl (by kernel_rfl) (by kernel_rfl) (by kernel_rfl) (fun _ _ _ h => h) hSd (by kernel_rfl) (.inl (.inl ⟨rfl, fun w' hS => by first | rfl | go_simp⟩)) (fun _ => kz0) ?_
              try simp only [List.setIfInBounds_toArray, List.set_cons_succ, List.set_cons_zero]
              refine anyL_takeF (i := 8) (d := 87) (v := (.int .i64 (i : Nat))) rfl rfl (by kernel_rfl) (by kernel_rfl) (by kernel_rfl) (fun _ _ _ h => h) hSd (by kernel_rfl) (.inl (.inl ⟨rfl, fun w' hS => by first | rfl | go_simp⟩)) (fun _ => kz0) ?_
              try simp only [List.setIfInBounds_toArray, List.set_cons_succ, List.set_cons_zero]
              refine anyL_takeF (i := 9) (d := 88) (v := (.pointer (some ⟨b, o + i * 16, none⟩))) rfl rfl (by kernel_rfl) (by kernel_rfl) (by kernel_rfl) (fun _ _ _ h => h) hSd (by kernel_rfl) (.inl (.inl ⟨rfl, fun w' hS => by first | rfl | go_simp⟩)) (fun _ => kz0) ?_
              try simp only [List.setIfInBounds_toArray, List.set_cons_succ, List.set_cons_zero]
              refine anyL_takeD (i := 10) (d := 89) (v := (.agg VA)) rfl rfl (by kernel_rfl) (by kernel_rfl) (by kernel_rfl) (fun _ _ _ h => h) hSd (by kernel_rfl) (.inl (.inl ⟨rfl, fun w' hS => exec_load rfl rfl (HL.out w' hS)⟩)) kz0 ?_
              try simp only [List.setIfInBounds_toArray, List.set_cons_succ, List.set_cons_zero]
              refine anyL_all (rs := [5]) (by kernel_rfl) (by simp) ?_
              intro n5 i hi
              simp only [List.mem_cons, List.not_mem_nil, or_false] at hi
              obtain rfl := hi
              refine wpOp_of rfl rfl ?_
              go_simp
              refine Calls.mono (AMD.out (z0.drewN n5) (kz0.drewN n5)) ?_
              rintro e z1 ⟨rfl, j⟩
              try dsimp only
              have kz1 : Kp (fun _ => False) wr z1 := (kz0.drewN n5).trans j
              refine ⟨fun _ => kz1, ?_⟩
              try simp only [List.setIfInBounds_toArray, List.set_cons_succ, List.set_cons_zero]
              refine anyL_all (rs := [11]) (by kernel_rfl) (by simp) ?_
              intro n11 i hi
              simp only [List.mem_cons, List.not_mem_nil, or_false] at hi
              obtain rfl := hi
              refine wpOp_of rfl rfl ?_
              go_simp
              refine Calls.mono (AMN.out (z1.drewN n11) (kz1.drewN n11)) ?_
              rintro e z2 ⟨rfl, j⟩
              try dsimp only
              have kz2 : Kp (fun _ => False) wr z2 := (kz1.drewN n11).trans j
              refine ⟨fun _ => kz2, ?_⟩
              try simp only [List.setIfInBounds_toArray, List.set_cons_succ, List.set_cons_zero]
              refine anyL_takeF (i := 12) (d := 91) (v := (.bool true)) rfl rfl (by kernel_rfl) (by kernel_rfl) (by kernel_rfl) (fun _ _ _ h => h) hSd (by kernel_rfl) (.inl (.inl ⟨rfl, fun w' hS => by first | rfl | go_simp⟩)) (fun _ => kz2) ?_
              try simp only [List.setIfInBounds_toArray, List.set_cons_succ, List.set_cons_zero]
              refine anyL_takeF (i := 13) (d := 92) (v := undef) rfl rfl (by kernel_rfl) (by kernel_rfl) (by kernel_rfl) (fun _ _ _ h => h) hSd (by kernel_rfl) (.inl (.inr ⟨rfl, rfl⟩)) (fun _ => kz2) ?_
              try simp only [List.setIfInBounds_toArray, List.set_cons_succ, List.set_cons_zero]
              refine anyL_takeF (i := 14) (d := 93) (v := undef) rfl rfl (by kernel_rfl) (by kernel_rfl) (by kernel_rfl) (fun _ _ _ h => h) hSd (by kernel_rfl) (.inl (.inr ⟨rfl, rfl⟩)) (fun _ => kz2) ?_
              try simp only [List.setIfInBounds_toArray, List.set_cons_succ, List.set_cons_zero]
              refine anyL_takeF (i := 15) (d := 94) (v := undef) rfl rfl (by kernel_rfl) (by kernel_rfl) (by kernel_rfl) (fun _ _ _ h => h) hSd (by kernel_rfl) (.inl (.inr ⟨rfl, rfl⟩)) (fun _ => kz2) ?_
              try simp only [List.setIfInBounds_toArray, List.set_cons_succ, List.set_cons_zero]
              refine anyL_takeF (i := 16) (d := 95) (v := undef) rfl rfl (by kernel_rfl) (by kernel_rfl) (by kernel_rfl) (fun _ _ _ h => h) hSd (by kernel_rfl) (.inl (.inr ⟨rfl, rfl⟩)) (fun _ => kz2) ?_
              try simp only [List.setIfInBounds_toArray, List.set_cons_succ, List.set_cons_zero]
              refine anyL_takeF (i := 17) (d := 96) (v := undef) rfl rfl (by kernel_rfl) (by kernel_rfl) (by kernel_rfl) (fun _ _ _ h => h) hSd (by kernel_rfl) (.inl (.inr ⟨rfl, rfl⟩)) (fun _ => kz2) ?_
              try simp only [List.setIfInBounds_toArray, List.set_cons_succ, List.set_cons_zero]
              refine anyL_takeF (i := 18) (d := 97) (v := undef) rfl rfl (by kernel_rfl) (by kernel_rfl) (by kernel_rfl) (fun _ _ _ h => h) hSd (by kernel_rfl) (.inl (.inr ⟨rfl, rfl⟩)) (fun _ => kz2) ?_
              try simp only [List.setIfInBounds_toArray, List.set_cons_succ, List.set_cons_zero]
              refine anyL_takeF (i := 19) (d := 98) (v := (.bool true)) rfl rfl (by kernel_rfl) (by kernel_rfl) (by kernel_rfl) (fun _ _ _ h => h) hSd (by kernel_rfl) (.inl (.inl ⟨rfl, fun w' hS => by first | rfl | go_simp⟩)) (fun _ => kz2) ?_
              try simp only [List.setIfInBounds_toArray, List.set_cons_succ, List.set_cons_zero]
              refine anyL_takeF (i := 20) (d := 99) (v := (.bool false)) rfl rfl (by kernel_rfl) (by kernel_rfl) (by kernel_rfl) (fun _ _ _ h => h) hSd (by kernel_rfl) (.inl (.inl ⟨rfl, fun w' hS => by go_simp⟩)) (fun _ => kz2) ?_
              try simp only [List.setIfInBounds_toArray, List.set_cons_succ, List.set_cons_zero]
              refine anyL_takeF (i := 21) (d := 100) (v := (.bool false)) rfl rfl (by kernel_rfl) (by kernel_rfl) (by kernel_rfl) (fun _ _ _ h => h) hSd (by kernel_rfl) (.inl (.inl ⟨rfl, fun w' hS => by first | rfl | go_simp⟩)) (fun _ => kz2) ?_
              try simp only [List.setIfInBounds_toArray, List.set_cons_succ, List.set_cons_zero]
              refine anyL_takeF (i := 22) (d := 101) (v := (.slice aT Y cT)) rfl rfl (by kernel_rfl) (by kernel_rfl) (by kernel_rfl) (fun _ _ _ h => h) hSd (by kernel_rfl) (.inl (.inl ⟨rfl, fun w' hS => by first | rfl | go_simp⟩)) (fun _ => kz2) ?_
              try simp only [List.setIfInBounds_toArray, List.set_cons_succ, List.set_cons_zero]
              refine anyL_takeF (i := 23) (d := 102) (v := (.slice (some ⟨b, o, none⟩) n2 c2)) rfl rfl (by kernel_rfl) (by kernel_rfl) (by kernel_rfl) (fun _ _ _ h => h) hSd (by kernel_rfl) (.inl (.inl ⟨rfl, fun w' hS => by first | rfl | go_simp⟩)) (fun _ => kz2) ?_
              try simp only [List.setIfInBounds_toArray, List.set_cons_succ, List.set_cons_zero]
              refine anyL_takeF (i := 24) (d := 103) (v := (.int .i64 (i : Nat))) rfl rfl (by kernel_rfl) (by kernel_rfl) (by kernel_rfl) (fun _ _ _ h => h) hSd (by kernel_rfl) (.inl (.inl ⟨rfl, fun w' hS => by first | rfl | go_simp⟩)) (fun _ => kz2) ?_
              try simp only [List.setIfInBounds_toArray, List.set_cons_succ, List.set_cons_zero]
              refine anyL_takeF (i := 25) (d := 104) (v := (.pointer (some ⟨b, o + i * 16, none⟩))) rfl rfl (by kernel_rfl) (by kernel_rfl) (by kernel_rfl) (fun _ _ _ h => h) hSd (by kernel_rfl) (.inl (.inl ⟨rfl, fun w' hS => by first | rfl | go_simp⟩)) (fun _ => kz2) ?_
              try simp only [List.setIfInBounds_toArray, List.set_cons_succ, List.set_cons_zero]
              refine anyL_takeD (i := 26) (d := 105) (v := (.agg VA)) rfl rfl (by kernel_rfl) (by kernel_rfl) (by kernel_rfl) (fun _ _ _ h => h) hSd (by kernel_rfl) (.inl (.inl ⟨rfl, fun w' hS => exec_load rfl rfl (HL.out w' hS)⟩)) kz2 ?_
              try simp only [List.setIfInBounds_toArray, List.set_cons_succ, List.set_cons_zero]
              refine anyL_all (rs := [27]) (by kernel_rfl) (by simp) ?_
              intro n27 i hi
              simp only [List.mem_cons, List.not_mem_nil, or_false] at hi
              obtain rfl := hi
              refine wpOp_of rfl rfl ?_
              go_simp
              refine Calls.mono (AMT.out (z2.drewN n27) (kz2.drewN n27)) ?_
              rintro e z3 ⟨rfl, j⟩
              try dsimp only
              have kz3 : Kp (fun _ => False) wr z3 := (kz2.drewN n27).trans j
              refine ⟨fun _ => kz3, ?_⟩
              try simp only [List.setIfInBounds_toArray, List.set_cons_succ, List.set_cons_zero]
              refine anyL_takeF (i := 28) (d := 107) (v := (.bool false)) rfl rfl (by kernel_rfl) (by kernel_rfl) (by kernel_rfl) (fun _ _ _ h => h) hSd (by kernel_rfl) (.inl (.inl ⟨rfl, fun w' hS => by first | rfl | go_simp⟩)) (fun _ => kz3) ?_
              try simp only [List.setIfInBounds_toArray, List.set_cons_succ, List.set_cons_zero]
              refine anyL_takeF (i := 29) (d := 108) (v := undef) rfl rfl (by kernel_rfl) (by kernel_rfl) (by kernel_rfl) (fun _ _ _ h => h) hSd (by kernel_rfl) (.inl (.inr ⟨rfl, rfl⟩)) (fun _ => kz3) ?_
              try simp only [List.setIfInBounds_toArray, List.set_cons_succ, List.set_cons_zero]
              refine anyL_takeF (i := 30) (d := 109) (v := undef) rfl rfl (by kernel_rfl) (by kernel_rfl) (by kernel_rfl) (fun _ _ _ h => h) hSd (by kernel_rfl) (.inl (.inr ⟨rfl, rfl⟩)) (fun _ => kz3) ?_
              try simp only [List.setIfInBounds_toArray, List.set_cons_succ, List.set_cons_zero]
              refine anyL_takeF (i := 31) (d := 110) (v := undef) rfl rfl (by kernel_rfl) (by kernel_rfl) (by kernel_rfl) (fun _ _ _ h => h) hSd (by kernel_rfl) (.inl (.inr ⟨rfl, rfl⟩)) (fun _ => kz3) ?_
              try simp only [List.setIfInBounds_toArray, List.set_cons_succ, List.set_cons_zero]
              refine anyL_takeF (i := 32) (d := 111) (v := undef) rfl rfl (by kernel_rfl) (by kernel_rfl) (by kernel_rfl) (fun _ _ _ h => h) hSd (by kernel_rfl) (.inl (.inr ⟨rfl, rfl⟩)) (fun _ => kz3) ?_
              try simp only [List.setIfInBounds_toArray, List.set_cons_succ, List.set_cons_zero]
              refine anyL_takeF (i := 33) (d := 112) (v := undef) rfl rfl (by kernel_rfl) (by kernel_rfl) (by kernel_rfl) (fun _ _ _ h => h) hSd (by kernel_rfl) (.inl (.inr ⟨rfl, rfl⟩)) (fun _ => kz3) ?_
              try simp only [List.setIfInBounds_toArray, List.set_cons_succ, List.set_cons_zero]
              refine anyL_takeF (i := 34) (d := 113) (v := undef) rfl rfl (by kernel_rfl) (by kernel_rfl) (by kernel_rfl) (fun _ _ _ h => h) hSd (by kernel_rfl) (.inl (.inr ⟨rfl, rfl⟩)) (fun _ => kz3) ?_
              try simp only [List.setIfInBounds_toArray, List.set_cons_succ, List.set_cons_zero]
              refine anyL_takeF (i := 35) (d := 114) (v := undef) rfl rfl (by kernel_rfl) (by kernel_rfl) (by kernel_rfl) (fun _ _ _ h => h) hSd (by kernel_rfl) (.inl (.inr ⟨rfl, rfl⟩)) (fun _ => kz3) ?_
              try simp only [List.setIfInBounds_toArray, List.set_cons_succ, List.set_cons_zero]
              refine anyL_takeF (i := 36) (d := 115) (v := (.bool false)) rfl rfl (by kernel_rfl) (by kernel_rfl) (by kernel_rfl) (fun _ _ _ h => h) hSd (by kernel_rfl) (.inl (.inl ⟨rfl, fun w' hS => by first | rfl | go_simp⟩)) (fun _ => kz3) ?_
              try simp only [List.setIfInBounds_toArray, List.set_cons_succ, List.set_cons_zero]
              refine anyL_takeF (i := 37) (d := 116) (v := (.bool false)) rfl rfl (by kernel_rfl) (by kernel_rfl) (by kernel_rfl) (fun _ _ _ h => h) hSd (by kernel_rfl) (.inl (.inl ⟨rfl, fun w' hS => by first | rfl | go_simp⟩)) (fun _ => kz3) ?_
              try simp only [List.setIfInBounds_toArray, List.set_cons_succ, List.set_cons_zero]
              refine anyL_done (by kernel_rfl) (fun nn => ?_) _
              have kw9 := kz3.drewN nn
              generalize z3.drewN nn = w9 at *
              have K9 := Lib.hid kw9
              clear kw9 hSd
              go_wp2_with fail
              go_roundw
              case rel => exact ⟨i + 1, by omega, by go_num, HK.out.trans K9.out⟩
              case measure => simp [intOf]; omega
            · by_cases hAMB : x ∈ BL
              · have hAMD : x ∉ DL := fun h => (hD.1 h).2 hAMB
                have hAMT : x ∉ TL := fun h => hAMD (hTD h)
                clear hD hTD
                have AMD := Lib.hid (show ∀ w' (k : Kp (fun _ => False) wr w'), Calls Try.prog 19 #[.slice ad X cd, .agg VA] w' fun e w'' => e = .returned (.bool false) ∧ Kp (fun _ => False) w' w'' from fun w' k => by rw [HVA.out]; exact among_no ad X cd DL HDN.out.1 x HX.out hAMD w' ((HDN.out.2.kp0 HK.out).kp0 k) (by omega))
                have AMN := Lib.hid (show ∀ w' (k : Kp (fun _ => False) wr w'), Calls Try.prog 19 #[.slice aI NN cI, .agg VA] w' fun e w'' => e = .returned (.bool false) ∧ Kp (fun _ => False) w' w'' from fun w' k => by rw [HVA.out]; exact among_no aI NN cI NL HNN.out.1 x HX.out hAMN w' ((HNN.out.2.kp0 HK.out).kp0 k) (by omega))
                have AMB := Lib.hid (show ∀ w' (k : Kp (fun _ => False) wr w'), Calls Try.prog 19 #[.slice a3 n3 c3, .agg VA] w' fun e w'' => e = .returned (.bool true) ∧ Kp (fun _ => False) w' w'' from fun w' k => by rw [HVA.out]; exact among_yes a3 n3 c3 BL HBN.out.1 x HX.out hAMB w' ((HBN.out.2.kp0 HK.out).kp0 k) (by omega))
                have AMT := Lib.hid (show ∀ w' (k : Kp (fun _ => False) wr w'), Calls Try.prog 19 #[.slice aT Y cT, .agg VA] w' fun e w'' => e = .returned (.bool false) ∧ Kp (fun _ => False) w' w'' from fun w' k => by rw [HVA.out]; exact among_no aT Y cT TL HTN.out.1 x HX.out hAMT w' ((HTN.out.2.kp0 HK.out).kp0 k) (by omega))
                go_upto_region 16 with fail
                refine region_L (S := fun w' => Kp (fun _ => False) wr w') [] rfl ?_
                have hSd : ∀ (w' : World) (n' : Nat), Kp (fun _ => False) wr w' → Kp (fun _ => False) wr (w'.drewN n') := fun w' n' h => h.drewN n'
                have hS0 : Kp (fun _ => False) wr wr.drew := (Kp.refl _ wr).drew
                refine anyL_world (fun w' => Kp (fun _ => False) wr w') hS0 ?_
                clear hS0
                intro z0 kz0
                refine anyL_takeF (i := 0) (d := 79) (v := (.slice ad X cd)) rfl rfl (by kernel_rfl) (by kernel_rfl) (by kernel_rfl) (fun _ _ _ h => h) hSd (by kernel_rfl) (.inl (.inl ⟨rfl, fun w' hS => by first | rfl | go_simp⟩)) (fun _ => kz0) ?_
                try simp only [List.setIfInBounds_toArray, List.set_cons_succ, List.set_cons_zero]
                refine anyL_takeF (i := 1) (d := 80) (v := (.slice (some ⟨b, o, none⟩) n2 c2)) rfl rfl (by kernel_rfl) (by kernel_rfl) (by kernel_rfl) (fun _ _ _ h => h) hSd (by kernel_rfl) (.inl (.inl ⟨rfl, fun w' hS => by first | rfl | go_simp⟩)) (fun _ => kz0) ?_
                try simp only [List.setIfInBounds_toArray, List.set_cons_succ, List.set_cons_zero]
                refine anyL_takeF (i := 2) (d := 81) (v := (.int .i64 (i : Nat))) rfl rfl (by kernel_rfl) (by kernel_rfl) (by kernel_rfl) (fun _ _ _ h => h) hSd (by kernel_rfl) (.inl (.inl ⟨rfl, fun w' hS => by first | rfl | go_simp⟩)) (fun _ => kz0) ?_
                try simp only [List.setIfInBounds_toArray, List.set_cons_succ, List.set_cons_zero]
                refine anyL_takeF (i := 3) (d := 82) (v := (.pointer (some ⟨b, o + i * 16, none⟩))) rfl rfl (by kernel_rfl) (by kernel_rfl) (by kernel_rfl) (fun _ _ _ h => h) hSd (by kernel_rfl) (.inl (.inl ⟨rfl, fun w' hS => by first | rfl | go_simp⟩)) (fun _ => kz0) ?_
                try simp only [List.setIfInBounds_toArray, List.set_cons_succ, List.set_cons_zero]
                refine anyL_takeD (i := 4) (d := 83) (v := (.agg VA)) rfl rfl (by kernel_rfl) (by kernel_rfl) (by kernel_rfl) (fun _ _ _ h => h) hSd (by kernel_rfl) (.inl (.inl ⟨rfl, fun w' hS => exec_load rfl rfl (HL.out w' hS)⟩)) kz0 ?_
                try simp only [List.setIfInBounds_toArray, List.set_cons_succ, List.set_cons_zero]
                refine anyL_takeF (i := 6) (d := 85) (v := (.slice aI NN cI)) rfl rfl (by kernel_rfl) (by kernel_rfl) (by kernel_rfl) (fun _ _ _ h => h) hSd (by kernel_rfl) (.inl (.inl ⟨rfl, fun w' hS => by first | rfl | go_simp⟩)) (fun _ => kz0) ?_
                try simp only [List.setIfInBounds_toArray, List.set_cons_succ, List.set_cons_zero]
                refine anyL_takeF (i := 7) (d := 86) (v := (.slice (some ⟨b, o, none⟩) n2 c2)) rfl rfl (by kernel_rfl) (by kernel_rfl) (by kernel_rfl) (fun _ _ _ h => h) hSd (by kernel_rfl) (.inl (.inl ⟨rfl, fun w' hS => by first | rfl | go_simp⟩)) (fun _ => kz0) ?_
                try simp only [List.setIfInBounds_toArray, List.set_cons_succ, List.set_cons_zero]
                refine anyL_takeF (i := 8) (d := 87) (v := (.int .i64 (i : Nat))) rfl rfl (by kernel_rfl) (by kernel_rfl) (by kernel_rfl) (fun _ _ _ h => h) hSd (by kernel_rfl) (.inl (.inl ⟨rfl, fun w' hS => by first | rfl | go_simp⟩)) (fun _ => kz0) ?_
                try simp only [List.setIfInBounds_toArray, List.set_cons_succ, List.set_cons_zero]
                refine anyL_takeF (i := 9) (d := 88) (v := (.pointer (some ⟨b, o + i * 16, none⟩))) rfl rfl (by kernel_rfl) (by kernel_rfl) (by kernel_rfl) (fun _ _ _ h => h) hSd (by kernel_rfl) (.inl (.inl ⟨rfl, fun w' hS => by first | rfl | go_simp⟩)) (fun _ => kz0) ?_
                try simp only [List.setIfInBounds_toArray, List.set_cons_succ, List.set_cons_zero]
                refine anyL_takeD (i := 10) (d := 89) (v := (.agg VA)) rfl rfl (by kernel_rfl) (by kernel_rfl) (by kernel_rfl) (fun _ _ _ h => h) hSd (by kernel_rfl) (.inl (.inl ⟨rfl, fun w' hS => exec_load rfl rfl (HL.out w' hS)⟩)) kz0 ?_
                try simp only [List.setIfInBounds_toArray, List.set_cons_succ, List.set_cons_zero]
                refine anyL_all (rs := [5]) (by kernel_rfl) (by simp) ?_
                intro n5 i hi
                simp only [List.mem_cons, List.not_mem_nil, or_false] at hi
                obtain rfl := hi
                refine wpOp_of rfl rfl ?_
                go_simp
                refine Calls.mono (AMD.out (z0.drewN n5) (kz0.drewN n5)) ?_
                rintro e z1 ⟨rfl, j⟩
                try dsimp only
                have kz1 : Kp (fun _ => False) wr z1 := (kz0.drewN n5).trans j
                refine ⟨fun _ => kz1, ?_⟩
                try simp only [List.setIfInBounds_toArray, List.set_cons_succ, List.set_cons_zero]
                refine anyL_all (rs := [11]) (by kernel_rfl) (by simp) ?_
                intro n11 i hi
                simp only [List.mem_cons, List.not_mem_nil, or_false] at hi
                obtain rfl := hi
                refine wpOp_of rfl rfl ?_
                go_simp
                refine Calls.mono (AMN.out (z1.drewN n11) (kz1.drewN n11)) ?_
                rintro e z2 ⟨rfl, j⟩
                try dsimp only
                have kz2 : Kp (fun _ => False) wr z2 := (kz1.drewN n11).trans j
                refine ⟨fun _ => kz2, ?_⟩
                try simp only [List.setIfInBounds_toArray, List.set_cons_succ, List.set_cons_zero]
                refine anyL_takeF (i := 12) (d := 91) (v := (.bool false)) rfl rfl (by kernel_rfl) (by kernel_rfl) (by kernel_rfl) (fun _ _ _ h => h) hSd (by kernel_rfl) (.inl (.inl ⟨rfl, fun w' hS => by first | rfl | go_simp⟩)) (fun _ => kz2) ?_
                try simp only [List.setIfInBounds_toArray, List.set_cons_succ, List.set_cons_zero]
                refine anyL_takeF (i := 13) (d := 92) (v := (.slice a3 n3 c3)) rfl rfl (by kernel_rfl) (by kernel_rfl) (by kernel_rfl) (fun _ _ _ h => h) hSd (by kernel_rfl) (.inl (.inl ⟨rfl, fun w' hS => by first | rfl | go_simp⟩)) (fun _ => kz2) ?_
                try simp only [List.setIfInBounds_toArray, List.set_cons_succ, List.set_cons_zero]
                refine anyL_takeF (i := 14) (d := 93) (v := (.slice (some ⟨b, o, none⟩) n2 c2)) rfl rfl (by kernel_rfl) (by kernel_rfl) (by kernel_rfl) (fun _ _ _ h => h) hSd (by kernel_rfl) (.inl (.inl ⟨rfl, fun w' hS => by first | rfl | go_simp⟩)) (fun _ => kz2) ?_
                try simp only [List.setIfInBounds_toArray, List.set_cons_succ, List.set_cons_zero]
                refine anyL_takeF (i := 15) (d := 94) (v := (.int .i64 (i : Nat))) rfl rfl (by kernel_rfl) (by kernel_rfl) (by kernel_rfl) (fun _ _ _ h => h) hSd (by kernel_rfl) (.inl (.inl ⟨rfl, fun w' hS => by first | rfl | go_simp⟩)) (fun _ => kz2) ?_
                try simp only [List.setIfInBounds_toArray, List.set_cons_succ, List.set_cons_zero]
                refine anyL_takeF (i := 16) (d := 95) (v := (.pointer (some ⟨b, o + i * 16, none⟩))) rfl rfl (by kernel_rfl) (by kernel_rfl) (by kernel_rfl) (fun _ _ _ h => h) hSd (by kernel_rfl) (.inl (.inl ⟨rfl, fun w' hS => by first | rfl | go_simp⟩)) (fun _ => kz2) ?_
                try simp only [List.setIfInBounds_toArray, List.set_cons_succ, List.set_cons_zero]
                refine anyL_takeD (i := 17) (d := 96) (v := (.agg VA)) rfl rfl (by kernel_rfl) (by kernel_rfl) (by kernel_rfl) (fun _ _ _ h => h) hSd (by kernel_rfl) (.inl (.inl ⟨rfl, fun w' hS => exec_load rfl rfl (HL.out w' hS)⟩)) kz2 ?_
                try simp only [List.setIfInBounds_toArray, List.set_cons_succ, List.set_cons_zero]
                refine anyL_all (rs := [18]) (by kernel_rfl) (by simp) ?_
                intro n18 i hi
                simp only [List.mem_cons, List.not_mem_nil, or_false] at hi
                obtain rfl := hi
                refine wpOp_of rfl rfl ?_
                go_simp
                refine Calls.mono (AMB.out (z2.drewN n18) (kz2.drewN n18)) ?_
                rintro e z3 ⟨rfl, j⟩
                try dsimp only
                have kz3 : Kp (fun _ => False) wr z3 := (kz2.drewN n18).trans j
                refine ⟨fun _ => kz3, ?_⟩
                try simp only [List.setIfInBounds_toArray, List.set_cons_succ, List.set_cons_zero]
                refine anyL_takeF (i := 19) (d := 98) (v := (.bool true)) rfl rfl (by kernel_rfl) (by kernel_rfl) (by kernel_rfl) (fun _ _ _ h => h) hSd (by kernel_rfl) (.inl (.inl ⟨rfl, fun w' hS => by first | rfl | go_simp⟩)) (fun _ => kz3) ?_
                try simp only [List.setIfInBounds_toArray, List.set_cons_succ, List.set_cons_zero]
                refine anyL_takeF (i := 20) (d := 99) (v := (.bool false)) rfl rfl (by kernel_rfl) (by kernel_rfl) (by kernel_rfl) (fun _ _ _ h => h) hSd (by kernel_rfl) (.inl (.inl ⟨rfl, fun w' hS => by go_simp⟩)) (fun _ => kz3) ?_
                try simp only [List.setIfInBounds_toArray, List.set_cons_succ, List.set_cons_zero]
                refine anyL_takeF (i := 21) (d := 100) (v := (.bool false)) rfl rfl (by kernel_rfl) (by kernel_rfl) (by kernel_rfl) (fun _ _ _ h => h) hSd (by kernel_rfl) (.inl (.inl ⟨rfl, fun w' hS => by first | rfl | go_simp⟩)) (fun _ => kz3) ?_
                try simp only [List.setIfInBounds_toArray, List.set_cons_succ, List.set_cons_zero]
                refine anyL_takeF (i := 22) (d := 101) (v := (.slice aT Y cT)) rfl rfl (by kernel_rfl) (by kernel_rfl) (by kernel_rfl) (fun _ _ _ h => h) hSd (by kernel_rfl) (.inl (.inl ⟨rfl, fun w' hS => by first | rfl | go_simp⟩)) (fun _ => kz3) ?_
                try simp only [List.setIfInBounds_toArray, List.set_cons_succ, List.set_cons_zero]
                refine anyL_takeF (i := 23) (d := 102) (v := (.slice (some ⟨b, o, none⟩) n2 c2)) rfl rfl (by kernel_rfl) (by kernel_rfl) (by kernel_rfl) (fun _ _ _ h => h) hSd (by kernel_rfl) (.inl (.inl ⟨rfl, fun w' hS => by first | rfl | go_simp⟩)) (fun _ => kz3) ?_
                try simp only [List.setIfInBounds_toArray, List.set_cons_succ, List.set_cons_zero]
                refine anyL_takeF (i := 24) (d := 103) (v := (.int .i64 (i : Nat))) rfl rfl (by kernel_rfl) (by kernel_rfl) (by kernel_rfl) (fun _ _ _ h => h) hSd (by kernel_rfl) (.inl (.inl ⟨rfl, fun w' hS => by first | rfl | go_simp⟩)) (fun _ => kz3) ?_
                try simp only [List.setIfInBounds_toArray, List.set_cons_succ, List.set_cons_zero]
                refine anyL_takeF (i := 25) (d := 104) (v := (.pointer (some ⟨b, o + i * 16, none⟩))) rfl rfl (by kernel_rfl) (by kernel_rfl) (by kernel_rfl) (fun _ _ _ h => h) hSd (by kernel_rfl) (.inl (.inl ⟨rfl, fun w' hS => by first | rfl | go_simp⟩)) (fun _ => kz3) ?_
                try simp only [List.setIfInBounds_toArray, List.set_cons_succ, List.set_cons_zero]
                refine anyL_takeD (i := 26) (d := 105) (v := (.agg VA)) rfl rfl (by kernel_rfl) (by kernel_rfl) (by kernel_rfl) (fun _ _ _ h => h) hSd (by kernel_rfl) (.inl (.inl ⟨rfl, fun w' hS => exec_load rfl rfl (HL.out w' hS)⟩)) kz3 ?_
                try simp only [List.setIfInBounds_toArray, List.set_cons_succ, List.set_cons_zero]
                refine anyL_all (rs := [27]) (by kernel_rfl) (by simp) ?_
                intro n27 i hi
                simp only [List.mem_cons, List.not_mem_nil, or_false] at hi
                obtain rfl := hi
                refine wpOp_of rfl rfl ?_
                go_simp
                refine Calls.mono (AMT.out (z3.drewN n27) (kz3.drewN n27)) ?_
                rintro e z4 ⟨rfl, j⟩
                try dsimp only
                have kz4 : Kp (fun _ => False) wr z4 := (kz3.drewN n27).trans j
                refine ⟨fun _ => kz4, ?_⟩
                try simp only [List.setIfInBounds_toArray, List.set_cons_succ, List.set_cons_zero]
                refine anyL_takeF (i := 28) (d := 107) (v := (.bool false)) rfl rfl (by kernel_rfl) (by kernel_rfl) (by kernel_rfl) (fun _ _ _ h => h) hSd (by kernel_rfl) (.inl (.inl ⟨rfl, fun w' hS => by first | rfl | go_simp⟩)) (fun _ => kz4) ?_
                try simp only [List.setIfInBounds_toArray, List.set_cons_succ, List.set_cons_zero]
                refine anyL_takeF (i := 29) (d := 108) (v := undef) rfl rfl (by kernel_rfl) (by kernel_rfl) (by kernel_rfl) (fun _ _ _ h => h) hSd (by kernel_rfl) (.inl (.inr ⟨rfl, rfl⟩)) (fun _ => kz4) ?_
                try simp only [List.setIfInBounds_toArray, List.set_cons_succ, List.set_cons_zero]
                refine anyL_takeF (i := 30) (d := 109) (v := undef) rfl rfl (by kernel_rfl) (by kernel_rfl) (by kernel_rfl) (fun _ _ _ h => h) hSd (by kernel_rfl) (.inl (.inr ⟨rfl, rfl⟩)) (fun _ => kz4) ?_
                try simp only [List.setIfInBounds_toArray, List.set_cons_succ, List.set_cons_zero]
                refine anyL_takeF (i := 31) (d := 110) (v := undef) rfl rfl (by kernel_rfl) (by kernel_rfl) (by kernel_rfl) (fun _ _ _ h => h) hSd (by kernel_rfl) (.inl (.inr ⟨rfl, rfl⟩)) (fun _ => kz4) ?_
                try simp only [List.setIfInBounds_toArray, List.set_cons_succ, List.set_cons_zero]
                refine anyL_takeF (i := 32) (d := 111) (v := undef) rfl rfl (by kernel_rfl) (by kernel_rfl) (by kernel_rfl) (fun _ _ _ h => h) hSd (by kernel_rfl) (.inl (.inr ⟨rfl, rfl⟩)) (fun _ => kz4) ?_
                try simp only [List.setIfInBounds_toArray, List.set_cons_succ, List.set_cons_zero]
                refine anyL_takeF (i := 33) (d := 112) (v := undef) rfl rfl (by kernel_rfl) (by kernel_rfl) (by kernel_rfl) (fun _ _ _ h => h) hSd (by kernel_rfl) (.inl (.inr ⟨rfl, rfl⟩)) (fun _ => kz4) ?_
                try simp only [List.setIfInBounds_toArray, List.set_cons_succ, List.set_cons_zero]
                refine anyL_takeF (i := 34) (d := 113) (v := undef) rfl rfl (by kernel_rfl) (by kernel_rfl) (by kernel_rfl) (fun _ _ _ h => h) hSd (by kernel_rfl) (.inl (.inr ⟨rfl, rfl⟩)) (fun _ => kz4) ?_
                try simp only [List.setIfInBounds_toArray, List.set_cons_succ, List.set_cons_zero]
                refine anyL_takeF (i := 35) (d := 114) (v := undef) rfl rfl (by kernel_rfl) (by kernel_rfl) (by kernel_rfl) (fun _ _ _ h => h) hSd (by kernel_rfl) (.inl (.inr ⟨rfl, rfl⟩)) (fun _ => kz4) ?_
                try simp only [List.setIfInBounds_toArray, List.set_cons_succ, List.set_cons_zero]
                refine anyL_takeF (i := 36) (d := 115) (v := (.bool false)) rfl rfl (by kernel_rfl) (by kernel_rfl) (by kernel_rfl) (fun _ _ _ h => h) hSd (by kernel_rfl) (.inl (.inl ⟨rfl, fun w' hS => by first | rfl | go_simp⟩)) (fun _ => kz4) ?_
                try simp only [List.setIfInBounds_toArray, List.set_cons_succ, List.set_cons_zero]
                refine anyL_takeF (i := 37) (d := 116) (v := (.bool false)) rfl rfl (by kernel_rfl) (by kernel_rfl) (by kernel_rfl) (fun _ _ _ h => h) hSd (by kernel_rfl) (.inl (.inl ⟨rfl, fun w' hS => by first | rfl | go_simp⟩)) (fun _ => kz4) ?_
                try simp only [List.setIfInBounds_toArray, List.set_cons_succ, List.set_cons_zero]
                refine anyL_done (by kernel_rfl) (fun nn => ?_) _
                have kw9 := kz4.drewN nn
                generalize z4.drewN nn = w9 at *
                have K9 := Lib.hid kw9
                clear kw9 hSd
                go_wp2_with fail
                go_roundw
                case rel => exact ⟨i + 1, by omega, by go_num, HK.out.trans K9.out⟩
                case measure => simp [intOf]; omega
              · have hAMD : x ∈ DL := hD.2 ⟨hAMN, hAMB⟩
                by_cases hAMT : x ∈ TL
                · clear hD hTD
                  have AMD := Lib.hid (show ∀ w' (k : Kp (fun _ => False) wr w'), Calls Try.prog 19 #[.slice ad X cd, .agg VA] w' fun e w'' => e = .returned (.bool true) ∧ Kp (fun _ => False) w' w'' from fun w' k => by rw [HVA.out]; exact among_yes ad X cd DL HDN.out.1 x HX.out hAMD w' ((HDN.out.2.kp0 HK.out).kp0 k) (by omega))
                  have AMN := Lib.hid (show ∀ w' (k : Kp (fun _ => False) wr w'), Calls Try.prog 19 #[.slice aI NN cI, .agg VA] w' fun e w'' => e = .returned (.bool false) ∧ Kp (fun _ => False) w' w'' from fun w' k => by rw [HVA.out]; exact among_no aI NN cI NL HNN.out.1 x HX.out hAMN w' ((HNN.out.2.kp0 HK.out).kp0 k) (by omega))
                  have AMB := Lib.hid (show ∀ w' (k : Kp (fun _ => False) wr w'), Calls Try.prog 19 #[.slice a3 n3 c3, .agg VA] w' fun e w'' => e = .returned (.bool false) ∧ Kp (fun _ => False) w' w'' from fun w' k => by rw [HVA.out]; exact among_no a3 n3 c3 BL HBN.out.1 x HX.out hAMB w' ((HBN.out.2.kp0 HK.out).kp0 k) (by omega))
                  have AMT := Lib.hid (show ∀ w' (k : Kp (fun _ => False) wr w'), Calls Try.prog 19 #[.slice aT Y cT, .agg VA] w' fun e w'' => e = .returned (.bool true) ∧ Kp (fun _ => False) w' w'' from fun w' k => by rw [HVA.out]; exact among_yes aT Y cT TL HTN.out.1 x HX.out hAMT w' ((HTN.out.2.kp0 HK.out).kp0 k) (by omega))
                  go_upto_region 16 with fail
                  refine region_L (S := fun w' => Kp (fun _ => False) wr w') [] rfl ?_
                  have hSd : ∀ (w' : World) (n' : Nat), Kp (fun _ => False) wr w' → Kp (fun _ => False) wr (w'.drewN n') := fun w' n' h => h.drewN n'
                  have hS0 : Kp (fun _ => False) wr wr.drew := (Kp.refl _ wr).drew
                  refine anyL_world (fun w' => Kp (fun _ => False) wr w') hS0 ?_
                  clear hS0
                  intro z0 kz0
                  refine anyL_takeF (i := 0) (d := 79) (v := (.slice ad X cd)) rfl rfl (by kernel_rfl) (by kernel_rfl) (by kernel_rfl) (fun _ _ _ h => h) hSd (by kernel_rfl) (.inl (.inl ⟨rfl, fun w' hS => by first | rfl | go_simp⟩)) (fun _ => kz0) ?_
                  try simp only [List.setIfInBounds_toArray, List.set_cons_succ, List.set_cons_zero]
                  refine anyL_takeF (i := 1) (d := 80) (v := (.slice (some ⟨b, o, none⟩) n2 c2)) rfl rfl (by kernel_rfl) (by kernel_rfl) (by kernel_rfl) (fun _ _ _ h => h) hSd (by kernel_rfl) (.inl (.inl ⟨rfl, fun w' hS => by first | rfl | go_simp⟩)) (fun _ => kz0) ?_
                  try simp only [List.setIfInBounds_toArray, List.set_cons_succ, List.set_cons_zero]
                  refine anyL_takeF (i := 2) (d := 81) (v := (.int .i64 (i : Nat))) rfl rfl (by kernel_rfl) (by kernel_rfl) (by kernel_rfl) (fun _ _ _ h => h) hSd (by kernel_rfl) (.inl (.inl ⟨rfl, fun w' hS => by first | rfl | go_simp⟩)) (fun _ => kz0) ?_
                  try simp only [List.setIfInBounds_toArray, List.set_cons_succ, List.set_cons_zero]
                  refine anyL_takeF (i := 3) (d := 82) (v := (.pointer (some ⟨b, o + i * 16, none⟩))) rfl rfl (by kernel_rfl) (by kernel_rfl) (by kernel_rfl) (fun _ _ _ h => h) hSd (by kernel_rfl) (.inl (.inl ⟨rfl, fun w' hS => by first | rfl | go_simp⟩)) (fun _ => kz0) ?_
                  try simp only [List.setIfInBounds_toArray, List.set_cons_succ, List.set_cons_zero]
                  refine anyL_takeD (i := 4) (d := 83) (v := (.agg VA)) rfl rfl (by kernel_rfl) (by kernel_rfl) (by kernel_rfl) (fun _ _ _ h => h) hSd (by kernel_rfl) (.inl (.inl ⟨rfl, fun w' hS => exec_load rfl rfl (HL.out w' hS)⟩)) kz0 ?_
                  try simp only [List.setIfInBounds_toArray, List.set_cons_succ, List.set_cons_zero]
                  refine anyL_takeF (i := 6) (d := 85) (v := (.slice aI NN cI)) rfl rfl (by kernel_rfl) (by kernel_rfl) (by kernel_rfl) (fun _ _ _ h => h) hSd (by kernel_rfl) (.inl (.inl ⟨rfl, fun w' hS => by first | rfl | go_simp⟩)) (fun _ => kz0) ?_
                  try simp only [List.setIfInBounds_toArray, List.set_cons_succ, List.set_cons_zero]
                  refine anyL_takeF (i := 7) (d := 86) (v := (.slice (some ⟨b, o, none⟩) n2 c2)) rfl rfl (by kernel_rfl) (by kernel_rfl) (by kernel_rfl) (fun _ _ _ h => h) hSd (by kernel_rfl) (.inl (.inl ⟨rfl, fun w' hS => by first | rfl | go_simp⟩)) (fun _ => kz0) ?_
                  try simp only [List.setIfInBounds_toArray, List.set_cons_succ, List.set_cons_zero]
                  refine anyL_takeF (i := 8) (d := 87) (v := (.int .i64 (i : Nat))) rfl rfl (by kernel_rfl) (by kernel_rfl) (by kernel_rfl) (fun _ _ _ h => h) hSd (by kernel_rfl) (.inl (.inl ⟨rfl, fun w' hS => by first | rfl | go_simp⟩)) (fun _ => kz0) ?_
                  try simp only [List.setIfInBounds_toArray, List.set_cons_succ, List.set_cons_zero]
                  refine anyL_takeF (i := 9) (d := 88) (v := (.pointer (some ⟨b, o + i * 16, none⟩))) rfl rfl (by kernel_rfl) (by kernel_rfl) (by kernel_rfl) (fun _ _ _ h => h) hSd (by kernel_rfl) (.inl (.inl ⟨rfl, fun w' hS => by first | rfl | go_simp⟩)) (fun _ => kz0) ?_
                  try simp only [List.setIfInBounds_toArray, List.set_cons_succ, List.set_cons_zero]
                  refine anyL_takeD (i := 10) (d := 89) (v := (.agg VA)) rfl rfl (by kernel_rfl) (by kernel_rfl) (by kernel_rfl) (fun _ _ _ h => h) hSd (by kernel_rfl) (.inl (.inl ⟨rfl, fun w' hS => exec_load rfl rfl (HL.out w' hS)⟩)) kz0 ?_
                  try simp only [List.setIfInBounds_toArray, List.set_cons_succ, List.set_cons_zero]
                  refine anyL_all (rs := [5]) (by kernel_rfl) (by simp) ?_
                  intro n5 i hi
                  simp only [List.mem_cons, List.not_mem_nil, or_false] at hi
                  obtain rfl := hi
                  refine wpOp_of rfl rfl ?_
                  go_simp
                  refine Calls.mono (AMD.out (z0.drewN n5) (kz0.drewN n5)) ?_
                  rintro e z1 ⟨rfl, j⟩
                  try dsimp only
                  have kz1 : Kp (fun _ => False) wr z1 := (kz0.drewN n5).trans j
                  refine ⟨fun _ => kz1, ?_⟩
                  try simp only [List.setIfInBounds_toArray, List.set_cons_succ, List.set_cons_zero]
                  refine anyL_all (rs := [11]) (by kernel_rfl) (by simp) ?_
                  intro n11 i hi
                  simp only [List.mem_cons, List.not_mem_nil, or_false] at hi
                  obtain rfl := hi
                  refine wpOp_of rfl rfl ?_
                  go_simp
                  refine Calls.mono (AMN.out (z1.drewN n11) (kz1.drewN n11)) ?_
                  rintro e z2 ⟨rfl, j⟩
                  try dsimp only
                  have kz2 : Kp (fun _ => False) wr z2 := (kz1.drewN n11).trans j
                  refine ⟨fun _ => kz2, ?_⟩
                  try simp only [List.setIfInBounds_toArray, List.set_cons_succ, List.set_cons_zero]
                  refine anyL_takeF (i := 12) (d := 91) (v := (.bool false)) rfl rfl (by kernel_rfl) (by kernel_rfl) (by kernel_rfl) (fun _ _ _ h => h) hSd (by kernel_rfl) (.inl (.inl ⟨rfl, fun w' hS => by first | rfl | go_simp⟩)) (fun _ => kz2) ?_
                  try simp only [List.setIfInBounds_toArray, List.set_cons_succ, List.set_cons_zero]
                  refine anyL_takeF (i := 13) (d := 92) (v := (.slice a3 n3 c3)) rfl rfl (by kernel_rfl) (by kernel_rfl) (by kernel_rfl) (fun _ _ _ h => h) hSd (by kernel_rfl) (.inl (.inl ⟨rfl, fun w' hS => by first | rfl | go_simp⟩)) (fun _ => kz2) ?_
                  try simp only [List.setIfInBounds_toArray, List.set_cons_succ, List.set_cons_zero]
                  refine anyL_takeF (i := 14) (d := 93) (v := (.slice (some ⟨b, o, none⟩) n2 c2)) rfl rfl (by kernel_rfl) (by kernel_rfl) (by kernel_rfl) (fun _ _ _ h => h) hSd (by kernel_rfl) (.inl (.inl ⟨rfl, fun w' hS => by first | rfl | go_simp⟩)) (fun _ => kz2) ?_
                  try simp only [List.setIfInBounds_toArray, List.set_cons_succ, List.set_cons_zero]
                  refine anyL_takeF (i := 15) (d := 94) (v := (.int .i64 (i : Nat))) rfl rfl (by kernel_rfl) (by kernel_rfl) (by kernel_rfl) (fun _ _ _ h => h) hSd (by kernel_rfl) (.inl (.inl ⟨rfl, fun w' hS => by first | rfl | go_simp⟩)) (fun _ => kz2) ?_
                  try simp only [List.setIfInBounds_toArray, List.set_cons_succ, List.set_cons_zero]
                  refine anyL_takeF (i := 16) (d := 95) (v := (.pointer (some ⟨b, o + i * 16, none⟩))) rfl rfl (by kernel_rfl) (by kernel_rfl) (by kernel_rfl) (fun _ _ _ h => h) hSd (by kernel_rfl) (.inl (.inl ⟨rfl, fun w' hS => by first | rfl | go_simp⟩)) (fun _ => kz2) ?_
                  try simp only [List.setIfInBounds_toArray, List.set_cons_succ, List.set_cons_zero]
                  refine anyL_takeD (i := 17) (d := 96) (v := (.agg VA)) rfl rfl (by kernel_rfl) (by kernel_rfl) (by kernel_rfl) (fun _ _ _ h => h) hSd (by kernel_rfl) (.inl (.inl ⟨rfl, fun w' hS => exec_load rfl rfl (HL.out w' hS)⟩)) kz2 ?_
                  try simp only [List.setIfInBounds_toArray, List.set_cons_succ, List.set_cons_zero]
                  refine anyL_all (rs := [18]) (by kernel_rfl) (by simp) ?_
                  intro n18 i hi
                  simp only [List.mem_cons, List.not_mem_nil, or_false] at hi
                  obtain rfl := hi
                  refine wpOp_of rfl rfl ?_
                  go_simp
                  refine Calls.mono (AMB.out (z2.drewN n18) (kz2.drewN n18)) ?_
                  rintro e z3 ⟨rfl, j⟩
                  try dsimp only
                  have kz3 : Kp (fun _ => False) wr z3 := (kz2.drewN n18).trans j
                  refine ⟨fun _ => kz3, ?_⟩
                  try simp only [List.setIfInBounds_toArray, List.set_cons_succ, List.set_cons_zero]
                  refine anyL_takeF (i := 19) (d := 98) (v := (.bool false)) rfl rfl (by kernel_rfl) (by kernel_rfl) (by kernel_rfl) (fun _ _ _ h => h) hSd (by kernel_rfl) (.inl (.inl ⟨rfl, fun w' hS => by first | rfl | go_simp⟩)) (fun _ => kz3) ?_
                  try simp only [List.setIfInBounds_toArray, List.set_cons_succ, List.set_cons_zero]
                  refine anyL_takeF (i := 20) (d := 99) (v := (.bool false)) rfl rfl (by kernel_rfl) (by kernel_rfl) (by kernel_rfl) (fun _ _ _ h => h) hSd (by kernel_rfl) (.inl (.inl ⟨rfl, fun w' hS => by go_simp⟩)) (fun _ => kz3) ?_
                  try simp only [List.setIfInBounds_toArray, List.set_cons_succ, List.set_cons_zero]
                  refine anyL_takeF (i := 21) (d := 100) (v := (.bool false)) rfl rfl (by kernel_rfl) (by kernel_rfl) (by kernel_rfl) (fun _ _ _ h => h) hSd (by kernel_rfl) (.inl (.inl ⟨rfl, fun w' hS => by first | rfl | go_simp⟩)) (fun _ => kz3) ?_
                  try simp only [List.setIfInBounds_toArray, List.set_cons_succ, List.set_cons_zero]
                  refine anyL_takeF (i := 22) (d := 101) (v := (.slice aT Y cT)) rfl rfl (by kernel_rfl) (by kernel_rfl) (by kernel_rfl) (fun _ _ _ h => h) hSd (by kernel_rfl) (.inl (.inl ⟨rfl, fun w' hS => by first | rfl | go_simp⟩)) (fun _ => kz3) ?_
                  try simp only [List.setIfInBounds_toArray, List.set_cons_succ, List.set_cons_zero]
                  refine anyL_takeF (i := 23) (d := 102) (v := (.slice (some ⟨b, o, none⟩) n2 c2)) rfl rfl (by kernel_rfl) (by kernel_rfl) (by kernel_rfl) (fun _ _ _ h => h) hSd (by kernel_rfl) (.inl (.inl ⟨rfl, fun w' hS => by first | rfl | go_simp⟩)) (fun _ => kz3) ?_
                  try simp only [List.setIfInBounds_toArray, List.set_cons_succ, List.set_cons_zero]
                  refine anyL_takeF (i := 24) (d := 103) (v := (.int .i64 (i : Nat))) rfl rfl (by kernel_rfl) (by kernel_rfl) (by kernel_rfl) (fun _ _ _ h => h) hSd (by kernel_rfl) (.inl (.inl ⟨rfl, fun w' hS => by first | rfl | go_simp⟩)) (fun _ => kz3) ?_
                  try simp only [List.setIfInBounds_toArray, List.set_cons_succ, List.set_cons_zero]
                  refine anyL_takeF (i := 25) (d := 104) (v := (.pointer (some ⟨b, o + i * 16, none⟩))) rfl rfl (by kernel_rfl) (by kernel_rfl) (by kernel_rfl) (fun _ _ _ h => h) hSd (by kernel_rfl) (.inl (.inl ⟨rfl, fun w' hS => by first | rfl | go_simp⟩)) (fun _ => kz3) ?_
                  try simp only [List.setIfInBounds_toArray, List.set_cons_succ, List.set_cons_zero]
                  refine anyL_takeD (i := 26) (d := 105) (v := (.agg VA)) rfl rfl (by kernel_rfl) (by kernel_rfl) (by kernel_rfl) (fun _ _ _ h => h) hSd (by kernel_rfl) (.inl (.inl ⟨rfl, fun w' hS => exec_load rfl rfl (HL.out w' hS)⟩)) kz3 ?_
                  try simp only [List.setIfInBounds_toArray, List.set_cons_succ, List.set_cons_zero]
                  refine anyL_all (rs := [27]) (by kernel_rfl) (by simp) ?_
                  intro n27 i hi
                  simp only [List.mem_cons, List.not_mem_nil, or_false] at hi
                  obtain rfl := hi
                  refine wpOp_of rfl rfl ?_
                  go_simp
                  refine Calls.mono (AMT.out (z3.drewN n27) (kz3.drewN n27)) ?_
                  rintro e z4 ⟨rfl, j⟩
                  try dsimp only
                  have kz4 : Kp (fun _ => False) wr z4 := (kz3.drewN n27).trans j
                  refine ⟨fun _ => kz4, ?_⟩
                  try simp only [List.setIfInBounds_toArray, List.set_cons_succ, List.set_cons_zero]
                  refine anyL_takeF (i := 28) (d := 107) (v := (.bool true)) rfl rfl (by kernel_rfl) (by kernel_rfl) (by kernel_rfl) (fun _ _ _ h => h) hSd (by kernel_rfl) (.inl (.inl ⟨rfl, fun w' hS => by first | rfl | go_simp⟩)) (fun _ => kz4) ?_
                  try simp only [List.setIfInBounds_toArray, List.set_cons_succ, List.set_cons_zero]
                  refine anyL_takeF (i := 29) (d := 108) (v := (.slice ad X cd)) rfl rfl (by kernel_rfl) (by kernel_rfl) (by kernel_rfl) (fun _ _ _ h => h) hSd (by kernel_rfl) (.inl (.inl ⟨rfl, fun w' hS => by first | rfl | go_simp⟩)) (fun _ => kz4) ?_
                  try simp only [List.setIfInBounds_toArray, List.set_cons_succ, List.set_cons_zero]
                  refine anyL_takeF (i := 30) (d := 109) (v := (.slice (some ⟨b, o, none⟩) n2 c2)) rfl rfl (by kernel_rfl) (by kernel_rfl) (by kernel_rfl) (fun _ _ _ h => h) hSd (by kernel_rfl) (.inl (.inl ⟨rfl, fun w' hS => by first | rfl | go_simp⟩)) (fun _ => kz4) ?_
                  try simp only [List.setIfInBounds_toArray, List.set_cons_succ, List.set_cons_zero]
                  refine anyL_takeF (i := 31) (d := 110) (v := (.int .i64 (i : Nat))) rfl rfl (by kernel_rfl) (by kernel_rfl) (by kernel_rfl) (fun _ _ _ h => h) hSd (by kernel_rfl) (.inl (.inl ⟨rfl, fun w' hS => by first | rfl | go_simp⟩)) (fun _ => kz4) ?_
                  try simp only [List.setIfInBounds_toArray, List.set_cons_succ, List.set_cons_zero]
                  refine anyL_takeF (i := 32) (d := 111) (v := (.pointer (some ⟨b, o + i * 16, none⟩))) rfl rfl (by kernel_rfl) (by kernel_rfl) (by kernel_rfl) (fun _ _ _ h => h) hSd (by kernel_rfl) (.inl (.inl ⟨rfl, fun w' hS => by first | rfl | go_simp⟩)) (fun _ => kz4) ?_
                  try simp only [List.setIfInBounds_toArray, List.set_cons_succ, List.set_cons_zero]
                  refine anyL_takeD (i := 33) (d := 112) (v := (.agg VA)) rfl rfl (by kernel_rfl) (by kernel_rfl) (by kernel_rfl) (fun _ _ _ h => h) hSd (by kernel_rfl) (.inl (.inl ⟨rfl, fun w' hS => exec_load rfl rfl (HL.out w' hS)⟩)) kz4 ?_
                  try simp only [List.setIfInBounds_toArray, List.set_cons_succ, List.set_cons_zero]
                  refine anyL_all (rs := [34]) (by kernel_rfl) (by simp) ?_
                  intro n34 i hi
                  simp only [List.mem_cons, List.not_mem_nil, or_false] at hi
                  obtain rfl := hi
                  refine wpOp_of rfl rfl ?_
                  go_simp
                  refine Calls.mono (AMD.out (z4.drewN n34) (kz4.drewN n34)) ?_
                  rintro e z5 ⟨rfl, j⟩
                  try dsimp only
                  have kz5 : Kp (fun _ => False) wr z5 := (kz4.drewN n34).trans j
                  refine ⟨fun _ => kz5, ?_⟩
                  try simp only [List.setIfInBounds_toArray, List.set_cons_succ, List.set_cons_zero]
                  refine anyL_takeF (i := 35) (d := 114) (v := (.bool false)) rfl rfl (by kernel_rfl) (by kernel_rfl) (by kernel_rfl) (fun _ _ _ h => h) hSd (by kernel_rfl) (.inl (.inl ⟨rfl, fun w' hS => by go_simp⟩)) (fun _ => kz5) ?_
                  try simp only [List.setIfInBounds_toArray, List.set_cons_succ, List.set_cons_zero]
                  refine anyL_takeF (i := 36) (d := 115) (v := (.bool false)) rfl rfl (by kernel_rfl) (by kernel_rfl) (by kernel_rfl) (fun _ _ _ h => h) hSd (by kernel_rfl) (.inl (.inl ⟨rfl, fun w' hS => by first | rfl | go_simp⟩)) (fun _ => kz5) ?_
                  try simp only [List.setIfInBounds_toArray, List.set_cons_succ, List.set_cons_zero]
                  refine anyL_takeF (i := 37) (d := 116) (v := (.bool false)) rfl rfl (by kernel_rfl) (by kernel_rfl) (by kernel_rfl) (fun _ _ _ h => h) hSd (by kernel_rfl) (.inl (.inl ⟨rfl, fun w' hS => by first | rfl | go_simp⟩)) (fun _ => kz5) ?_
                  try simp only [List.setIfInBounds_toArray, List.set_cons_succ, List.set_cons_zero]
                  refine anyL_done (by kernel_rfl) (fun nn => ?_) _
                  have kw9 := kz5.drewN nn
                  generalize z5.drewN nn = w9 at *
                  have K9 := Lib.hid kw9
                  clear kw9 hSd
                  go_wp2_with fail
                  go_roundw
                  case rel => exact ⟨i + 1, by omega, by go_num, HK.out.trans K9.out⟩
                  case measure => simp [intOf]; omega
                · clear hD hTD
                  have AMD := Lib.hid (show ∀ w' (k : Kp (fun _ => False) wr w'), Calls Try.prog 19 #[.slice ad X cd, .agg VA] w' fun e w'' => e = .returned (.bool true) ∧ Kp (fun _ => False) w' w'' from fun w' k => by rw [HVA.out]; exact among_yes ad X cd DL HDN.out.1 x HX.out hAMD w' ((HDN.out.2.kp0 HK.out).kp0 k) (by omega))
                  have AMN := Lib.hid (show ∀ w' (k : Kp (fun _ => False) wr w'), Calls Try.prog 19 #[.slice aI NN cI, .agg VA] w' fun e w'' => e = .returned (.bool false) ∧ Kp (fun _ => False) w' w'' from fun w' k => by rw [HVA.out]; exact among_no aI NN cI NL HNN.out.1 x HX.out hAMN w' ((HNN.out.2.kp0 HK.out).kp0 k) (by omega))
                  have AMB := Lib.hid (show ∀ w' (k : Kp (fun _ => False) wr w'), Calls Try.prog 19 #[.slice a3 n3 c3, .agg VA] w' fun e w'' => e = .returned (.bool false) ∧ Kp (fun _ => False) w' w'' from fun w' k => by rw [HVA.out]; exact among_no a3 n3 c3 BL HBN.out.1 x HX.out hAMB w' ((HBN.out.2.kp0 HK.out).kp0 k) (by omega))
                  have AMT := Lib.hid (show ∀ w' (k : Kp (fun _ => False) wr w'), Calls Try.prog 19 #[.slice aT Y cT, .agg VA] w' fun e w'' => e = .returned (.bool false) ∧ Kp (fun _ => False) w' w'' from fun w' k => by rw [HVA.out]; exact among_no aT Y cT TL HTN.out.1 x HX.out hAMT w' ((HTN.out.2.kp0 HK.out).kp0 k) (by omega))
                  go_upto_region 16 with fail
                  refine region_L (S := fun w' => Kp (fun _ => False) wr w') [] rfl ?_
                  have hSd : ∀ (w' : World) (n' : Nat), Kp (fun _ => False) wr w' → Kp (fun _ => False) wr (w'.drewN n') := fun w' n' h => h.drewN n'
                  have hS0 : Kp (fun _ => False) wr wr.drew := (Kp.refl _ wr).drew
                  refine anyL_world (fun w' => Kp (fun _ => False) wr w') hS0 ?_
                  clear hS0
                  intro z0 kz0
                  refine anyL_takeF (i := 0) (d := 79) (v := (.slice ad X cd)) rfl rfl (by kernel_rfl) (by kernel_rfl) (by kernel_rfl) (fun _ _ _ h => h) hSd (by kernel_rfl) (.inl (.inl ⟨rfl, fun w' hS => by first | rfl | go_simp⟩)) (fun _ => kz0) ?_
                  try simp only [List.setIfInBounds_toArray, List.set_cons_succ, List.set_cons_zero]
                  refine anyL_takeF (i := 1) (d := 80) (v := (.slice (some ⟨b, o, none⟩) n2 c2)) rfl rfl (by kernel_rfl) (by kernel_rfl) (by kernel_rfl) (fun _ _ _ h => h) hSd (by kernel_rfl) (.inl (.inl ⟨rfl, fun w' hS => by first | rfl | go_simp⟩)) (fun _ => kz0) ?_
                  try simp only [List.setIfInBounds_toArray, List.set_cons_succ, List.set_cons_zero]
                  refine anyL_takeF (i := 2) (d := 81) (v := (.int .i64 (i : Nat))) rfl rfl (by kernel_rfl) (by kernel_rfl) (by kernel_rfl) (fun _ _ _ h => h) hSd (by kernel_rfl) (.inl (.inl ⟨rfl, fun w' hS => by first | rfl | go_simp⟩)) (fun _ => kz0) ?_
                  try simp only [List.setIfInBounds_toArray, List.set_cons_succ, List.set_cons_zero]
                  refine anyL_takeF (i := 3) (d := 82) (v := (.pointer (some ⟨b, o + i * 16, none⟩))) rfl rfl (by kernel_rfl) (by kernel_rfl) (by kernel_rfl) (fun _ _ _ h => h) hSd (by kernel_rfl) (.inl (.inl ⟨rfl, fun w' hS => by first | rfl | go_simp⟩)) (fun _ => kz0) ?_
                  try simp only [List.setIfInBounds_toArray, List.set_cons_succ, List.set_cons_zero]
                  refine anyL_takeD (i := 4) (d := 83) (v := (.agg VA)) rfl rfl (by kernel_rfl) (by kernel_rfl) (by kernel_rfl) (fun _ _ _ h => h) hSd (by kernel_rfl) (.inl (.inl ⟨rfl, fun w' hS => exec_load rfl rfl (HL.out w' hS)⟩)) kz0 ?_
                  try simp only [List.setIfInBounds_toArray, List.set_cons_succ, List.set_cons_zero]
                  refine anyL_takeF (i := 6) (d := 85) (v := (.slice aI NN cI)) rfl rfl (by kernel_rfl) (by kernel_rfl) (by kernel_rfl) (fun _ _ _ h => h) hSd (by kernel_rfl) (.inl (.inl ⟨rfl, fun w' hS => by first | rfl | go_simp⟩)) (fun _ => kz0) ?_
                  try simp only [List.setIfInBounds_toArray, List.set_cons_succ, List.set_cons_zero]
                  refine anyL_takeF (i := 7) (d := 86) (v := (.slice (some ⟨b, o, none⟩) n2 c2)) rfl rfl (by kernel_rfl) (by kernel_rfl) (by kernel_rfl) (fun _ _ _ h => h) hSd (by kernel_rfl) (.inl (.inl ⟨rfl, fun w' hS => by first | rfl | go_simp⟩)) (fun _ => kz0) ?_
                  try simp only [List.setIfInBounds_toArray, List.set_cons_succ, List.set_cons_zero]
                  refine anyL_takeF (i := 8) (d := 87) (v := (.int .i64 (i : Nat))) rfl rfl (by kernel_rfl) (by kernel_rfl) (by kernel_rfl) (fun _ _ _ h => h) hSd (by kernel_rfl) (.inl (.inl ⟨rfl, fun w' hS => by first | rfl | go_simp⟩)) (fun _ => kz0) ?_
                  try simp only [List.setIfInBounds_toArray, List.set_cons_succ, List.set_cons_zero]
                  refine anyL_takeF (i := 9) (d := 88) (v := (.pointer (some ⟨b, o + i * 16, none⟩))) rfl rfl (by kernel_rfl) (by kernel_rfl) (by kernel_rfl) (fun _ _ _ h => h) hSd (by kernel_rfl) (.inl (.inl ⟨rfl, fun w' hS => by first | rfl | go_simp⟩)) (fun _ => kz0) ?_
                  try simp only [List.setIfInBounds_toArray, List.set_cons_succ, List.set_cons_zero]
                  refine anyL_takeD (i := 10) (d := 89) (v := (.agg VA)) rfl rfl (by kernel_rfl) (by kernel_rfl) (by kernel_rfl) (fun _ _ _ h => h) hSd (by kernel_rfl) (.inl (.inl ⟨rfl, fun w' hS => exec_load rfl rfl (HL.out w' hS)⟩)) kz0 ?_
                  try simp only [List.setIfInBounds_toArray, List.set_cons_succ, List.set_cons_zero]
                  refine anyL_all (rs := [5]) (by kernel_rfl) (by simp) ?_
                  intro n5 i hi
                  simp only [List.mem_cons, List.not_mem_nil, or_false] at hi
                  obtain rfl := hi
                  refine wpOp_of rfl rfl ?_
                  go_simp
                  refine Calls.mono (AMD.out (z0.drewN n5) (kz0.drewN n5)) ?_
                  rintro e z1 ⟨rfl, j⟩
                  try dsimp only
                  have kz1 : Kp (fun _ => False) wr z1 := (kz0.drewN n5).trans j
                  refine ⟨fun _ => kz1, ?_⟩
                  try simp only [List.setIfInBounds_toArray, List.set_cons_succ, List.set_cons_zero]
                  refine anyL_all (rs := [11]) (by kernel_rfl) (by simp) ?_
                  intro n11 i hi
                  simp only [List.mem_cons, List.not_mem_nil, or_false] at hi
                  obtain rfl := hi
                  refine wpOp_of rfl rfl ?_
                  go_simp
                  refine Calls.mono (AMN.out (z1.drewN n11) (kz1.drewN n11)) ?_
                  rintro e z2 ⟨rfl, j⟩
                  try dsimp only
                  have kz2 : Kp (fun _ => False) wr z2 := (kz1.drewN n11).trans j
                  refine ⟨fun _ => kz2, ?_⟩
                  try simp only [List.setIfInBounds_toArray, List.set_cons_succ, List.set_cons_zero]
                  refine anyL_takeF (i := 12) (d := 91) (v := (.bool false)) rfl rfl (by kernel_rfl) (by kernel_rfl) (by kernel_rfl) (fun _ _ _ h => h) hSd (by kernel_rfl) (.inl (.inl ⟨rfl, fun w' hS => by first | rfl | go_simp⟩)) (fun _ => kz2) ?_
                  try simp only [List.setIfInBounds_toArray, List.set_cons_succ, List.set_cons_zero]
                  refine anyL_takeF (i := 13) (d := 92) (v := (.slice a3 n3 c3)) rfl rfl (by kernel_rfl) (by kernel_rfl) (by kernel_rfl) (fun _ _ _ h => h) hSd (by kernel_rfl) (.inl (.inl ⟨rfl, fun w' hS => by first | rfl | go_simp⟩)) (fun _ => kz2) ?_
                  try simp only [List.setIfInBounds_toArray, List.set_cons_succ, List.set_cons_zero]
                  refine anyL_takeF (i := 14) (d := 93) (v := (.slice (some ⟨b, o, none⟩) n2 c2)) rfl rfl (by kernel_rfl) (by kernel_rfl) (by kernel_rfl) (fun _ _ _ h => h) hSd (by kernel_rfl) (.inl (.inl ⟨rfl, fun w' hS => by first | rfl | go_simp⟩)) (fun _ => kz2) ?_
                  try simp only [List.setIfInBounds_toArray, List.set_cons_succ, List.set_cons_zero]
                  refine anyL_takeF (i := 15) (d := 94) (v := (.int .i64 (i : Nat))) rfl rfl (by kernel_rfl) (by kernel_rfl) (by kernel_rfl) (fun _ _ _ h => h) hSd (by kernel_rfl) (.inl (.inl ⟨rfl, fun w' hS => by first | rfl | go_simp⟩)) (fun _ => kz2) ?_
                  try simp only [List.setIfInBounds_toArray, List.set_cons_succ, List.set_cons_zero]
                  refine anyL_takeF (i := 16) (d := 95) (v := (.pointer (some ⟨b, o + i * 16, none⟩))) rfl rfl (by kernel_rfl) (by kernel_rfl) (by kernel_rfl) (fun _ _ _ h => h) hSd (by kernel_rfl) (.inl (.inl ⟨rfl, fun w' hS => by first | rfl | go_simp⟩)) (fun _ => kz2) ?_
                  try simp only [List.setIfInBounds_toArray, List.set_cons_succ, List.set_cons_zero]
                  refine anyL_takeD (i := 17) (d := 96) (v := (.agg VA)) rfl rfl (by kernel_rfl) (by kernel_rfl) (by kernel_rfl) (fun _ _ _ h => h) hSd (by kernel_rfl) (.inl (.inl ⟨rfl, fun w' hS => exec_load rfl rfl (HL.out w' hS)⟩)) kz2 ?_
                  try simp only [List.setIfInBounds_toArray, List.set_cons_succ, List.set_cons_zero]
                  refine anyL_all (rs := [18]) (by kernel_rfl) (by simp) ?_
                  intro n18 i hi
                  simp only [List.mem_cons, List.not_mem_nil, or_false] at hi
                  obtain rfl := hi
                  refine wpOp_of rfl rfl ?_
                  go_simp
                  refine Calls.mono (AMB.out (z2.drewN n18) (kz2.drewN n18)) ?_
                  rintro e z3 ⟨rfl, j⟩
                  try dsimp only
                  have kz3 : Kp (fun _ => False) wr z3 := (kz2.drewN n18).trans j
                  refine ⟨fun _ => kz3, ?_⟩
                  try simp only [List.setIfInBounds_toArray, List.set_cons_succ, List.set_cons_zero]
                  refine anyL_takeF (i := 19) (d := 98) (v := (.bool false)) rfl rfl (by kernel_rfl) (by kernel_rfl) (by kernel_rfl) (fun _ _ _ h => h) hSd (by kernel_rfl) (.inl (.inl ⟨rfl, fun w' hS => by first | rfl | go_simp⟩)) (fun _ => kz3) ?_
                  try simp only [List.setIfInBounds_toArray, List.set_cons_succ, List.set_cons_zero]
                  refine anyL_takeF (i := 20) (d := 99) (v := (.bool false)) rfl rfl (by kernel_rfl) (by kernel_rfl) (by kernel_rfl) (fun _ _ _ h => h) hSd (by kernel_rfl) (.inl (.inl ⟨rfl, fun w' hS => by go_simp⟩)) (fun _ => kz3) ?_
                  try simp only [List.setIfInBounds_toArray, List.set_cons_succ, List.set_cons_zero]
                  refine anyL_takeF (i := 21) (d := 100) (v := (.bool false)) rfl rfl (by kernel_rfl) (by kernel_rfl) (by kernel_rfl) (fun _ _ _ h => h) hSd (by kernel_rfl) (.inl (.inl ⟨rfl, fun w' hS => by first | rfl | go_simp⟩)) (fun _ => kz3) ?_
                  try simp only [List.setIfInBounds_toArray, List.set_cons_succ, List.set_cons_zero]
                  refine anyL_takeF (i := 22) (d := 101) (v := (.slice aT Y cT)) rfl rfl (by kernel_rfl) (by kernel_rfl) (by kernel_rfl) (fun _ _ _ h => h) hSd (by kernel_rfl) (.inl (.inl ⟨rfl, fun w' hS => by first | rfl | go_simp⟩)) (fun _ => kz3) ?_
                  try simp only [List.setIfInBounds_toArray, List.set_cons_succ, List.set_cons_zero]
                  refine anyL_takeF (i := 23) (d := 102) (v := (.slice (some ⟨b, o, none⟩) n2 c2)) rfl rfl (by kernel_rfl) (by kernel_rfl) (by kernel_rfl) (fun _ _ _ h => h) hSd (by kernel_rfl) (.inl (.inl ⟨rfl, fun w' hS => by first | rfl | go_simp⟩)) (fun _ => kz3) ?_
                  try simp only [List.setIfInBounds_toArray, List.set_cons_succ, List.set_cons_zero]
                  refine anyL_takeF (i := 24) (d := 103) (v := (.int .i64 (i : Nat))) rfl rfl (by kernel_rfl) (by kernel_rfl) (by kernel_rfl) (fun _ _ _ h => h) hSd (by kernel_rfl) (.inl (.inl ⟨rfl, fun w' hS => by first | rfl | go_simp⟩)) (fun _ => kz3) ?_
                  try simp only [List.setIfInBounds_toArray, List.set_cons_succ, List.set_cons_zero]
                  refine anyL_takeF (i := 25) (d := 104) (v := (.pointer (some ⟨b, o + i * 16, none⟩))) rfl rfl (by kernel_rfl) (by kernel_rfl) (by kernel_rfl) (fun _ _ _ h => h) hSd (by kernel_rfl) (.inl (.inl ⟨rfl, fun w' hS => by first | rfl | go_simp⟩)) (fun _ => kz3) ?_
                  try simp only [List.setIfInBounds_toArray, List.set_cons_succ, List.set_cons_zero]
                  refine anyL_takeD (i := 26) (d := 105) (v := (.agg VA)) rfl rfl (by kernel_rfl) (by kernel_rfl) (by kernel_rfl) (fun _ _ _ h => h) hSd (by kernel_rfl) (.inl (.inl ⟨rfl, fun w' hS => exec_load rfl rfl (HL.out w' hS)⟩)) kz3 ?_
                  try simp only [List.setIfInBounds_toArray, List.set_cons_succ, List.set_cons_zero]
                  refine anyL_all (rs := [27]) (by kernel_rfl) (by simp) ?_
                  intro n27 i hi
                  simp only [List.mem_cons, List.not_mem_nil, or_false] at hi
                  obtain rfl := hi
                  refine wpOp_of rfl rfl ?_
                  go_simp
                  refine Calls.mono (AMT.out (z3.drewN n27) (kz3.drewN n27)) ?_
                  rintro e z4 ⟨rfl, j⟩
                  try dsimp only
                  have kz4 : Kp (fun _ => False) wr z4 := (kz3.drewN n27).trans j
                  refine ⟨fun _ => kz4, ?_⟩
                  try simp only [List.setIfInBounds_toArray, List.set_cons_succ, List.set_cons_zero]
                  refine anyL_takeF (i := 28) (d := 107) (v := (.bool false)) rfl rfl (by kernel_rfl) (by kernel_rfl) (by kernel_rfl) (fun _ _ _ h => h) hSd (by kernel_rfl) (.inl (.inl ⟨rfl, fun w' hS => by first | rfl | go_simp⟩)) (fun _ => kz4) ?_
                  try simp only [List.setIfInBounds_toArray, List.set_cons_succ, List.set_cons_zero]
                  refine anyL_takeF (i := 29) (d := 108) (v := undef) rfl rfl (by kernel_rfl) (by kernel_rfl) (by kernel_rfl) (fun _ _ _ h => h) hSd (by kernel_rfl) (.inl (.inr ⟨rfl, rfl⟩)) (fun _ => kz4) ?_
                  try simp only [List.setIfInBounds_toArray, List.set_cons_succ, List.set_cons_zero]
                  refine anyL_takeF (i := 30) (d := 109) (v := undef) rfl rfl (by kernel_rfl) (by kernel_rfl) (by kernel_rfl) (fun _ _ _ h => h) hSd (by kernel_rfl) (.inl (.inr ⟨rfl, rfl⟩)) (fun _ => kz4) ?_
                  try simp only [List.setIfInBounds_toArray, List.set_cons_succ, List.set_cons_zero]
                  refine anyL_takeF (i := 31) (d := 110) (v := undef) rfl rfl (by kernel_rfl) (by kernel_rfl) (by kernel_rfl) (fun _ _ _ h => h) hSd (by kernel_rfl) (.inl (.inr ⟨rfl, rfl⟩)) (fun _ => kz4) ?_
                  try simp only [List.setIfInBounds_toArray, List.set_cons_succ, List.set_cons_zero]
                  refine anyL_takeF (i := 32) (d := 111) (v := undef) rfl rfl (by kernel_rfl) (by kernel_rfl) (by kernel_rfl) (fun _ _ _ h => h) hSd (by kernel_rfl) (.inl (.inr ⟨rfl, rfl⟩)) (fun _ => kz4) ?_
                  try simp only [List.setIfInBounds_toArray, List.set_cons_succ, List.set_cons_zero]
                  refine anyL_takeF (i := 33) (d := 112) (v := undef) rfl rfl (by kernel_rfl) (by kernel_rfl) (by kernel_rfl) (fun _ _ _ h => h) hSd (by kernel_rfl) (.inl (.inr ⟨rfl, rfl⟩)) (fun _ => kz4) ?_
                  try simp only [List.setIfInBounds_toArray, List.set_cons_succ, List.set_cons_zero]
                  refine anyL_takeF (i := 34) (d := 113) (v := undef) rfl rfl (by kernel_rfl) (by kernel_rfl) (by kernel_rfl) (fun _ _ _ h => h) hSd (by kernel_rfl) (.inl (.inr ⟨rfl, rfl⟩)) (fun _ => kz4) ?_
                  try simp only [List.setIfInBounds_toArray, List.set_cons_succ, List.set_cons_zero]
                  refine anyL_takeF (i := 35) (d := 114) (v := undef) rfl rfl (by kernel_rfl) (by kernel_rfl) (by kernel_rfl) (fun _ _ _ h => h) hSd (by kernel_rfl) (.inl (.inr ⟨rfl, rfl⟩)) (fun _ => kz4) ?_
                  try simp only [List.setIfInBounds_toArray, List.set_cons_succ, List.set_cons_zero]
                  refine anyL_takeF (i := 36) (d := 115) (v := (.bool false)) rfl rfl (by kernel_rfl) (by kernel_rfl) (by kernel_rfl) (fun _ _ _ h => h) hSd (by kernel_rfl) (.inl (.inl ⟨rfl, fun w' hS => by first | rfl | go_simp⟩)) (fun _ => kz4) ?_
                  try simp only [List.setIfInBounds_toArray, List.set_cons_succ, List.set_cons_zero]
                  refine anyL_takeF (i := 37) (d := 116) (v := (.bool false)) rfl rfl (by kernel_rfl) (by kernel_rfl) (by kernel_rfl) (fun _ _ _ h => h) hSd (by kernel_rfl) (.inl (.inl ⟨rfl, fun w' hS => by first | rfl | go_simp⟩)) (fun _ => kz4) ?_
                  try simp only [List.setIfInBounds_toArray, List.set_cons_succ, List.set_cons_zero]
                  refine anyL_done (by kernel_rfl) (fun nn => ?_) _
                  have kw9 := kz4.drewN nn
                  generalize z4.drewN nn = w9 at *
                  have K9 := Lib.hid kw9
                  clear kw9 hSd
                  go_wp2_with fail
                  go_roundw
                  case rel => exact ⟨i + 1, by omega, by go_num, HK.out.trans K9.out⟩
                  case measure => simp [intOf]; omega
          · obtain rfl : i = n2 := by omega
            obtain ⟨w9, hw9⟩ : ∃ w9, w9 = wr := ⟨_, rfl⟩
            rw [← hw9] at HK ⊢
            clear hk hw9 hlt
            have c4 := (((((KC.out.trans K4.out).trans (R5.out.2.1.trans R6.out.2.1)).trans R7.out.2.1).trans R8.out.2).trans HK.out).cell HB.out.2.2.2.2 (fun h => h)
            have HTI := Lib.hid (((HNA.out.2.2.2.2.1.ge ((((KW7.out).trans R8.out.2).trans HK.out).mono (fun _ _ h => h.elim)))))
            have HC4 := Lib.hid c4
            clear c4
            go_wp2_with fail
            go_loopw [17] (fun jv wr => ∃ j : Nat, j ≤ mL ∧ jv = .int .i64 j ∧ Kp (fun _ => False) w9 wr) (fun jv _ => mL - (intOf jv).toNat)
            case atStart => exact ⟨0, by omega, rfl, Kp.refl _ _⟩
            case round =>
              obtain ⟨j, hj, rfl, hk⟩ := hrel
              have HKJ := Lib.hid hk
              have c4 := hk.cell HC4.out (fun h => h)
              by_cases hlt : j < mL
              · have j1 : (j : Int) < mL := by omega
                obtain ⟨b, off, p, kd, md, sz, t, ac, cc, ea, _, _, _, _, _, q5, q6, q7, q8⟩ := HTI.out j (by rw [← HNA.out.2.2.2.1]; exact hlt)
                subst ea
                have hcl := HCB.out j (by rw [← HNA.out.2.2.2.1]; exact hlt)
                have hmemj : itn mm j ∈ mm := by unfold itn; rw [List.getD_eq_getElem?_getD, List.getElem?_eq_getElem (by rw [← HNA.out.2.2.2.1]; exact hlt)]; exact List.getElem_mem _
                obtain ⟨IT, hIT⟩ : ∃ IT, IT = itn mm j := ⟨_, rfl⟩
                rw [← hIT] at q5 q6 hcl hmemj
                obtain ⟨iL, hiL⟩ : ∃ iL, iL = IT.length := ⟨_, rfl⟩
                rw [← hiL] at q5 hcl
                have HIT := Lib.hid (And.intro q6 (And.intro hiL hmemj))
                have HQ5 := Lib.hid q5
                clear q5 q6 q7 q8 hiL hIT hmemj hk
                go_wp2_with fail
                go_loopw [18] (fun kv wr => ∃ k : Nat, k ≤ iL ∧ kv = .int .i64 k ∧ Kp (fun _ => False) w9 wr) (fun kv _ => iL - (intOf kv).toNat)
                case atStart => exact ⟨0, by omega, rfl, HKJ.out⟩
                case round =>
                  obtain ⟨k, hkk, rfl, hk⟩ := hrel
                  have HKK := Lib.hid hk
                  have c4 := hk.cell HC4.out (fun h => h)
                  have c5 := hk.cell HQ5.out (fun h => h)
                  by_cases hlt2 : k < iL
                  · have j2 : (k : Int) < iL := by omega
                    obtain ⟨b2, o2, e2, hr⟩ := (HIT.out.1.kp0 hk).at' k (by rw [← HIT.out.2.1]; exact hlt2)
                    have hx16 := HIT.out.1.ids.idn (i := k) (by rw [← HIT.out.2.1]; exact hlt2)
                    subst e2
                    have hmx : idn IT k ∈ IT := by unfold idn; rw [List.getD_eq_getElem?_getD, List.getElem?_eq_getElem (by rw [← HIT.out.2.1]; exact hlt2)]; exact List.getElem_mem _
                    have hAMT : idn IT k ∉ TL := fun h => by
                      rw [R6.out.2.2.1, newL_mem, HA2.out] at h
                      exact h.2 (List.mem_append.2 (.inl (List.mem_append.2 (.inr (List.mem_flatten.2 ⟨IT, HIT.out.2.2, hmx⟩)))))
                    obtain ⟨x, hx⟩ : ∃ x, x = idn IT k := ⟨_, rfl⟩
                    rw [← hx] at hr hx16 hAMT
                    have ql := load_id hr hx16
                    obtain ⟨VA, hVA⟩ : ∃ VA, VA = idB x := ⟨_, rfl⟩
                    rw [idV_B, ← hVA] at ql
                    have HL := Lib.hid ql
                    have AMT := Lib.hid (show Calls Try.prog 19 #[.slice aT Y cT, .agg VA] wr fun e w'' => e = .returned (.bool false) ∧ Kp (fun _ => False) wr w'' from by rw [hVA]; exact among_no aT Y cT TL R6.out.2.2.2 x hx16 hAMT wr ((((R6.out.1.kp0 R7.out.2.1).kp0 R8.out.2).kp0 HK.out).kp0 hk) (by omega))
                    clear hr hx16 hmx hAMT hx ql hVA hk
                    go_wp2_with (refine wpList_load_run HL.out rfl rfl rfl ?_)
                    go_at_call 19
                    refine AMT.out.mono ?_
                    rintro e w12 ⟨rfl, k12⟩
                    have K12 := Lib.hid k12
                    clear k12
                    go_wp2_with fail
                    go_roundw
                    case rel => exact ⟨k + 1, by omega, by go_num, HKK.out.trans K12.out⟩
                    case measure => simp [intOf]; omega
                  · obtain rfl : k = iL := by omega
                    clear hk
                    go_wp2_with fail
                    go_roundw
                    case rel => exact ⟨j + 1, by omega, by go_num, HKK.out⟩
                    case measure => simp [intOf]; omega
              · obtain rfl : j = mL := by omega
                clear hk
                go_wp2_with fail
                go_ret
                exact ⟨rfl, (((KW7.out.trans R8.out.2).trans HK.out).trans HKJ.out).below (fun _ _ h => h)⟩
theorem refsAlive_walk (a0 : Option Addr) (len0 cap0 : Nat) (c1 : Array Value) (a2 : Option Addr) (len2 cap2 : Nat) (a3 : Option Addr) (len3 cap3 : Nat) (w : World) (r0 : Rdu Try.prog w 33 [.slice a0 len0 cap0] 1048576) (r1 : Rdu Try.prog w 54 c1.toList 1048576) (r2 : Rdu Try.prog w 34 [.slice a2 len2 cap2] 1048576) (r3 : Rdu Try.prog w 34 [.slice a3 len3 cap3] 1048576) :
    Calls Try.prog 7 #[.slice a0 len0 cap0, .agg c1, .slice a2 len2 cap2, .slice a3 len3 cap3] w fun e w' => e = .returned (.bool true) ∧ Below w.heap.size w w' := by
  obtain ⟨a, ms, cap, e, hm, _, hb, hb8⟩ := open_mans r0 (by omega)
  obtain ⟨x0, x1, x2, x3, ai, mm, ci, em, hmm, hmc, hm2, hbm⟩ := open_man r1 (by omega)
  obtain ⟨a', L, cap', e', hl, _, _⟩ := open_ids r2
  obtain ⟨a'', L2, cap'', e'', hl2, _, _⟩ := open_ids r3
  simp only [List.cons.injEq, Value.slice.injEq, and_true] at e e' e''
  obtain ⟨rfl, rfl, rfl⟩ := e
  obtain ⟨rfl, rfl, rfl⟩ := e'
  obtain ⟨rfl, rfl, rfl⟩ := e''
  obtain rfl : c1 = #[.int .i64 x0, .int .i64 x1, .int .i64 x2, .int .i64 x3, .slice ai (List.length mm) ci] := by
    rw [← Array.toList_inj, em]
  have hbk : bulkM (ms ++ [mm]) ≤ 3000000 := by
    rw [bulkM_app]
    have : bulkM [mm] = bulkT mm := by simp [bulkM]
    omega
  have hn8 : ms.length ≤ 1099998 := by omega
  cases hB : bigB (ms ++ [mm]) L.length
  · cases h2 : decide (200 < L2.length)
    · exact alive_main _ _ _ _ _ _ _ _ _ _ _ _ _ _ _ _ ms mm L L2 w rfl rfl rfl rfl hm hmm ⟨hmc, hm2⟩ hl hl2 hbk hn8 hB h2
    · exact alive_big2 _ _ _ _ _ _ _ _ _ _ _ _ _ _ _ _ ms mm L L2 w rfl rfl rfl rfl hm hmm ⟨hmc, hm2⟩ hl hl2 hbk hn8 hB h2
  · exact alive_big1 _ _ _ _ _ _ _ _ _ _ _ _ _ _ _ _ ms mm L L2 w rfl rfl rfl rfl hm hmm ⟨hmc, hm2⟩ hl hl2 hbk hn8 hB
end Go.Proofs.Ytaibdkdmilhloaa
