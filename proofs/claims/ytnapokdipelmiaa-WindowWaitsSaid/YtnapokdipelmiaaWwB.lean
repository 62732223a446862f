/- WindowWaits: a part of the walk. (Written by wip/winparts.py.) -/
import Derived.Test.YtnapokdipelmiaaWwA
namespace Go.Proofs.Ytnapokdipelmiaa
open Go.RowKit Flt
set_option linter.unusedVariables false
set_option linter.unusedSimpArgs false
set_option maxHeartbeats 4000000 in
set_option maxRecDepth 20000 in
theorem wwB1 : wwA.1.1 := by
  intro g w2 y1 y2 y3 y4 y5 y6 y7 y8 y9 y10 y11 y12 y13 y14 y15 y16 y17 y18 y19 y20 y21 y22 y23 y24 y25 y26 y27 y28 y29 y30 y31 y32 y33 y34 y35 y36 y37 y38 y39 y40 y41 y42 y43 y44 y45 y46 y47 y48 y49 y50 y51 y52 y53 y54 y55 y56 y57 y58 y59 y60 y61 y62 y63 y64 y65 y66 y67 y68 y69 y70 y71 y72 y73 y74 y75 y76 y77 y78 y79 y80 y81 y82 y83 y84 y85 y86 y87 y88 y89 y90 y91 y92 y93 y94 y95 y96 y97 y98 y99 y100 y101 y102 y103 y104 y105 y106 y107 y108 y109 y110 y111 y112 y113 y114 y115 y116 y117 y118 y119 y120 y121 y122 y123 y124 y125 y126 y127 y128 y129 y130 y131 y132 y133 y134 y135 y136 y137 y138 y139 y140 y141 y142 y143 y144 y145 y146 y147 y148 y149 y150 y151 y152 y153 y154 y155 y156 y157 y158 y159 y160 y161 y162 y163 y164 y165 y166 y167 y168 y169 y170 y171 y172 y173 y174 y175 y176 y177 y178 y179 y180 y181 y182 y183 y184 y185 y186 y187 y188 y189 w1 u M hub hMb hwM mn huM HM3 hM9 p1 HM2 sz hszb hp1b hmnb H2 wh hwhb tk htkb p0 hp0b HEQ HM1 w K1 n4 P4 n3 P3 n2 P2 n1 P1 n0 P0 y190 y191 y192 y193 y194 y195 zq
  refine region_L (S := fun w' => Kp (fun _ => False) w2 w') [] rfl ?_
  have hSd : ∀ (w' : World) (n' : Nat), Kp (fun _ => False) w2 w' → Kp (fun _ => False) w2 (w'.drewN n') := fun w' n' h => h.drewN n'
  have hS0 : Kp (fun _ => False) w2 w2.drew := (Kp.refl _ w2).drew
  refine anyL_world (fun w' => Kp (fun _ => False) w2 w') hS0 ?_
  clear hS0
  intro z0 kz0
  refine anyL_takeF (i := 0) (d := 54) (v := (.int .i64 (mn : Nat))) rfl rfl (by kernel_rfl) (by kernel_rfl) (by kernel_rfl) (fun _ _ _ h => h) hSd (by kernel_rfl) (.inl (.inl ⟨rfl, fun w' hS => by first | rfl | go_simp⟩)) (fun _ => kz0) ?_
  try simp only [List.setIfInBounds_toArray, List.set_cons_succ, List.set_cons_zero]
  refine anyL_takeF (i := 1) (d := 55) (v := (.int .i64 ((M : Nat) : Int))) rfl rfl (by kernel_rfl) (by kernel_rfl) (by kernel_rfl) (fun _ _ _ h => h) hSd (by kernel_rfl) (.inl (.inl ⟨rfl, fun w' hS => by go_simp⟩)) (fun _ => kz0) ?_
  try simp only [List.setIfInBounds_toArray, List.set_cons_succ, List.set_cons_zero]
  refine anyL_takeF (i := 3) (d := 57) (v := (.int .i64 (mn : Nat))) rfl rfl (by kernel_rfl) (by kernel_rfl) (by kernel_rfl) (fun _ _ _ h => h) hSd (by kernel_rfl) (.inl (.inl ⟨rfl, fun w' hS => by first | rfl | go_simp⟩)) (fun _ => kz0) ?_
  try simp only [List.setIfInBounds_toArray, List.set_cons_succ, List.set_cons_zero]
  refine anyL_takeF (i := 4) (d := 58) (v := (.int .i64 ((M : Nat) : Int))) rfl rfl (by kernel_rfl) (by kernel_rfl) (by kernel_rfl) (fun _ _ _ h => h) hSd (by kernel_rfl) (.inl (.inl ⟨rfl, fun w' hS => by go_simp⟩)) (fun _ => kz0) ?_
  try simp only [List.setIfInBounds_toArray, List.set_cons_succ, List.set_cons_zero]
  refine anyL_all (rs := [2, 5]) (by kernel_rfl) (by simp) ?_
  intro n1 i hi
  simp only [List.mem_cons, List.not_mem_nil, or_false] at hi
  rcases hi with rfl | rfl
  · obtain ⟨y1, hr1, hat1, k1⟩ := run_make_at (P := Try.prog) (z0.drewN n1) Try.underlying28 elem_i64 .i64 .i64 (M : Int) (M : Int) M rfl rfl (by omega) (by unfold maxLen; omega)
    rw [zeros_one _ rfl] at hat1
    have ky1 : Kp (fun _ => False) w2 y1 := (kz0.drewN n1).trans k1
    have hs1 : w2.heap.size ≤ (z0.drewN n1).heap.size := (kz0.drewN n1).size
    obtain ⟨p1, hp1⟩ : ∃ p, p = (z0.drewN n1).heap.size := ⟨_, rfl⟩
    rw [← hp1] at hr1 hat1 hs1
    clear hp1
    refine wpOp_of rfl rfl ?_
    refine wp_make_run hr1 rfl rfl rfl ?_
    try dsimp only
    refine ⟨fun _ => ky1, ?_⟩
    try simp only [List.setIfInBounds_toArray, List.set_cons_succ, List.set_cons_zero]
    refine anyL_takeF (i := 6) (d := 14) (v := .slice (some ⟨p1, 0, none⟩) M M) rfl rfl (by kernel_rfl) (by kernel_rfl) (by kernel_rfl) (fun _ _ _ h => h) hSd (by kernel_rfl) (.inl (.inl ⟨rfl, fun w' hS => by first | rfl | go_simp⟩)) (fun _ => ky1) ?_
    try simp only [List.setIfInBounds_toArray, List.set_cons_succ, List.set_cons_zero]
    refine anyL_all (rs := [5]) (by kernel_rfl) (by simp) ?_
    intro n2 i hi
    simp only [List.mem_cons, List.not_mem_nil, or_false] at hi
    obtain rfl := hi
    obtain ⟨y2, hr2, hat2, k2⟩ := run_make_at (P := Try.prog) (y1.drewN n2) Try.underlying28 elem_i64 .i64 .i64 (M : Int) (M : Int) M rfl rfl (by omega) (by unfold maxLen; omega)
    rw [zeros_one _ rfl] at hat2
    have ky2 : Kp (fun _ => False) w2 y2 := (ky1.drewN n2).trans k2
    have hs2 : w2.heap.size ≤ (y1.drewN n2).heap.size := (ky1.drewN n2).size
    have hlt : p1 < (y1.drewN n2).heap.size := hat1.lt
    have hat1 := k2.at (hat1.drewN n2) (fun h => h)
    obtain ⟨p2, hp2⟩ : ∃ p, p = (y1.drewN n2).heap.size := ⟨_, rfl⟩
    rw [← hp2] at hr2 hat2 hs2 hlt
    clear hp2
    refine wpOp_of rfl rfl ?_
    refine wp_make_run hr2 rfl rfl rfl ?_
    try dsimp only
    refine ⟨fun _ => ky2, ?_⟩
    try simp only [List.setIfInBounds_toArray, List.set_cons_succ, List.set_cons_zero]
    refine anyL_takeF (i := 7) (d := 15) (v := .slice (some ⟨p2, 0, none⟩) M M) rfl rfl (by kernel_rfl) (by kernel_rfl) (by kernel_rfl) (fun _ _ _ h => h) hSd (by kernel_rfl) (.inl (.inl ⟨rfl, fun w' hS => by first | rfl | go_simp⟩)) (fun _ => ky2) ?_
    try simp only [List.setIfInBounds_toArray, List.set_cons_succ, List.set_cons_zero]
    refine anyL_done (by kernel_rfl) (fun nn => ?_) _
    go_wp2_with fail
    go_meet
    exact ⟨p1, p2, rfl, rfl, AtI.zero (hat1.drewN nn), AtI.zero (hat2.drewN nn), by omega, by omega, by omega, ky2.drewN nn⟩
  · obtain ⟨y1, hr1, hat1, k1⟩ := run_make_at (P := Try.prog) (z0.drewN n1) Try.underlying28 elem_i64 .i64 .i64 (M : Int) (M : Int) M rfl rfl (by omega) (by unfold maxLen; omega)
    rw [zeros_one _ rfl] at hat1
    have ky1 : Kp (fun _ => False) w2 y1 := (kz0.drewN n1).trans k1
    have hs1 : w2.heap.size ≤ (z0.drewN n1).heap.size := (kz0.drewN n1).size
    obtain ⟨p1, hp1⟩ : ∃ p, p = (z0.drewN n1).heap.size := ⟨_, rfl⟩
    rw [← hp1] at hr1 hat1 hs1
    clear hp1
    refine wpOp_of rfl rfl ?_
    refine wp_make_run hr1 rfl rfl rfl ?_
    try dsimp only
    refine ⟨fun _ => ky1, ?_⟩
    try simp only [List.setIfInBounds_toArray, List.set_cons_succ, List.set_cons_zero]
    refine anyL_all (rs := [2]) (by kernel_rfl) (by simp) ?_
    intro n2 i hi
    simp only [List.mem_cons, List.not_mem_nil, or_false] at hi
    obtain rfl := hi
    obtain ⟨y2, hr2, hat2, k2⟩ := run_make_at (P := Try.prog) (y1.drewN n2) Try.underlying28 elem_i64 .i64 .i64 (M : Int) (M : Int) M rfl rfl (by omega) (by unfold maxLen; omega)
    rw [zeros_one _ rfl] at hat2
    have ky2 : Kp (fun _ => False) w2 y2 := (ky1.drewN n2).trans k2
    have hs2 : w2.heap.size ≤ (y1.drewN n2).heap.size := (ky1.drewN n2).size
    have hlt : p1 < (y1.drewN n2).heap.size := hat1.lt
    have hat1 := k2.at (hat1.drewN n2) (fun h => h)
    obtain ⟨p2, hp2⟩ : ∃ p, p = (y1.drewN n2).heap.size := ⟨_, rfl⟩
    rw [← hp2] at hr2 hat2 hs2 hlt
    clear hp2
    refine wpOp_of rfl rfl ?_
    refine wp_make_run hr2 rfl rfl rfl ?_
    try dsimp only
    refine ⟨fun _ => ky2, ?_⟩
    try simp only [List.setIfInBounds_toArray, List.set_cons_succ, List.set_cons_zero]
    refine anyL_takeF (i := 6) (d := 14) (v := .slice (some ⟨p2, 0, none⟩) M M) rfl rfl (by kernel_rfl) (by kernel_rfl) (by kernel_rfl) (fun _ _ _ h => h) hSd (by kernel_rfl) (.inl (.inl ⟨rfl, fun w' hS => by first | rfl | go_simp⟩)) (fun _ => ky2) ?_
    try simp only [List.setIfInBounds_toArray, List.set_cons_succ, List.set_cons_zero]
    refine anyL_takeF (i := 7) (d := 15) (v := .slice (some ⟨p1, 0, none⟩) M M) rfl rfl (by kernel_rfl) (by kernel_rfl) (by kernel_rfl) (fun _ _ _ h => h) hSd (by kernel_rfl) (.inl (.inl ⟨rfl, fun w' hS => by first | rfl | go_simp⟩)) (fun _ => ky2) ?_
    try simp only [List.setIfInBounds_toArray, List.set_cons_succ, List.set_cons_zero]
    refine anyL_done (by kernel_rfl) (fun nn => ?_) _
    go_wp2_with fail
    go_meet
    exact ⟨p2, p1, rfl, rfl, AtI.zero (hat2.drewN nn), AtI.zero (hat1.drewN nn), by omega, by omega, by omega, ky2.drewN nn⟩
end Go.Proofs.Ytnapokdipelmiaa
