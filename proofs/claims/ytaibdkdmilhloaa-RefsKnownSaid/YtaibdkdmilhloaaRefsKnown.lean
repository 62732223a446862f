/- RefsKnown: the walk. (Written by wip/refknown.py.) -/
import Derived.Test.YtaibdkdmilhloaaKnP
import Derived.Test.YtaibdkdmilhloaaAwk
namespace Go.Proofs.Ytaibdkdmilhloaa
open Go.RowKit Flt
set_option linter.unusedVariables false
set_option linter.unusedSimpArgs false
set_option maxHeartbeats 4000000 in
set_option maxRecDepth 20000 in
theorem refsKnown_walk (w : World) : Calls Try.prog 8 #[] w fun e w' => e = .returned (.bool true) ∧ Below w.heap.size w w' := by
  obtain ⟨IA, hIA⟩ : ∃ IA, IA = idB (idk 1) := ⟨_, rfl⟩
  obtain ⟨IB, hIB⟩ : ∃ IB, IB = idB (idk 2) := ⟨_, rfl⟩
  obtain ⟨IC, hIC⟩ : ∃ IC, IC = idB (idk 3) := ⟨_, rfl⟩
  obtain ⟨ID, hID⟩ : ∃ ID, ID = idB (idk 4) := ⟨_, rfl⟩
  have ca := fun w' => a_any w'
  have cb := fun w' => b_any w'
  have cc := fun w' => c_any w'
  have cd := fun w' => d_any w'
  have h3 := fun w' => bs3 w'
  have h4 := fun w' => bs4k w'
  have h3k := fun w' => bs3k w'
  have h2 := fun w' => bs2k w'
  have h1d := fun w' => bs_one (x := idk 4) rfl w'
  have h1c := fun w' => bs_one (x := idk 3) rfl w'
  simp only [idV_B] at ca cb cc cd h3 h4 h3k h2 h1d h1c
  rw [← hIA] at ca
  rw [← hIB] at cb
  rw [← hIC] at cc
  rw [← hID] at cd
  rw [← hIA, ← hIB] at h3
  rw [← hIA, ← hIC, ← hID] at h4
  rw [← hIA, ← hIC, ← hID] at h3k
  rw [← hIC, ← hID] at h2
  rw [← hID] at h1d
  rw [← hIC] at h1c
  have CA := Lib.hid ca
  have CB := Lib.hid cb
  have CC := Lib.hid cc
  have CD := Lib.hid cd
  have H3 := Lib.hid h3
  have H4 := Lib.hid h4
  have H3k := Lib.hid h3k
  have H2 := Lib.hid h2
  have H1d := Lib.hid h1d
  have H1c := Lib.hid h1c
  have HI := Lib.hid (And.intro hIA (And.intro hIB (And.intro hIC hID)))
  clear hIA hIB hIC hID ca cb cc cd h3 h4 h3k h2 h1d h1c
  go_enter Try.func8, Try.ntmps8
  go_wp2_with fail
  go_at_call 30
  (with_reducible refine (CA.out _).mono ?_)
  rintro e w1 ⟨rfl, j⟩
  have Kw1 := Lib.hid j
  clear j
  go_wp2_with fail
  go_at_call 31
  (with_reducible refine (CB.out _).mono ?_)
  rintro e w2 ⟨rfl, j⟩
  have Kw2 := Lib.hid j
  clear j
  go_wp2_with fail
  go_at_call 30
  (with_reducible refine (CA.out _).mono ?_)
  rintro e w3 ⟨rfl, j⟩
  have Kw3 := Lib.hid j
  clear j
  go_wp2_with (first | (refine wpList_buildSlice_run (ps := #[(0, .agg IA), (1, .agg IB), (2, .agg IA)]) rfl rfl rfl (H3.out _) ?_) | (refine wpList_wanted rfl (wp_buildSlice_run (ps := #[(0, .agg IA), (1, .agg IB), (2, .agg IA)]) rfl rfl (H3.out _) ?_)))
  have r1 := rdi_new (l := [idk 1, idk 2, idk 1]) (ids_k rfl) w3 41
  go_at_call 29
  refine (of_any _ _ _ _).mono ?_
  rintro e w4 ⟨i1, p1, t1, rfl, a1, hi1, j⟩
  have A1 := Lib.hid (And.intro a1 (r1.kp0 j))
  clear a1 r1 hi1
  have Kw4 := Lib.hid j
  clear j
  go_upto_region 2 with fail
  refine wp_world (fun wx => RdM wx (some ⟨w4.heap.size, 0, none⟩) msK ∧ Kp (fun _ => False) w wx) ?_ ?_
  · have k8 := (Kp.refl (fun _ => False) w4).alloc (.cells #[.int .i64 0, .int .i64 0, .int .i64 0, .int .i64 0, .slice (some ⟨i1, 0, none⟩) 1 1] 54)
    have A2 := k8.at A1.out.1 (fun h => h)
    have r2 := A1.out.2.kp0 k8
    have A3 := At.new w4 [.int .i64 0, .int .i64 0, .int .i64 0, .int .i64 0, .slice (some ⟨i1, 0, none⟩) 1 1] 54
    refine ⟨fun i hi => ?_, ((((Kw1.out.trans Kw2.out).trans Kw3.out).trans ((Kp.refl (fun _ => False) w3).alloc (.cells (idC [idk 1, idk 2, idk 1]).toArray 41))).trans Kw4.out).trans k8⟩
    have hi : i < 1 := hi
    obtain rfl : i = 0 := by omega
    refine ⟨w4.heap.size, 0, 0, 0, 0, 0, some ⟨i1, 0, none⟩, 1, rfl, A3.cell 0, A3.cell 1, A3.cell 2, A3.cell 3, A3.cell 4, fun j hj => ?_, by decide, by decide⟩
    have hj : j < 1 := hj
    obtain rfl : j = 0 := by omega
    exact ⟨i1, 0, p1, 0, 0, 0, t1, some ⟨w3.heap.size, 0, none⟩, 3, rfl, A2.cell 0, A2.cell 1, A2.cell 2, A2.cell 3, A2.cell 4, A2.cell 5, r2, by decide, by decide⟩
  rintro v0 ⟨hm, kv⟩
  obtain ⟨bm, hbm⟩ : ∃ bm, bm = w4.heap.size := ⟨_, rfl⟩
  rw [← hbm] at hm ⊢
  clear hbm
  have HM := Lib.hid (And.intro hm kv)
  clear hm kv
  go_wp2_with fail
  go_at_call 30
  (with_reducible refine (CA.out _).mono ?_)
  rintro e v5 ⟨rfl, j⟩
  have Kv5 := Lib.hid j
  clear j
  go_wp2_with fail
  go_at_call 32
  (with_reducible refine (CC.out _).mono ?_)
  rintro e v6 ⟨rfl, j⟩
  have Kv6 := Lib.hid j
  clear j
  go_wp2_with fail
  go_at_call 33
  (with_reducible refine (CD.out _).mono ?_)
  rintro e v7 ⟨rfl, j⟩
  have Kv7 := Lib.hid j
  clear j
  go_wp2_with fail
  go_at_call 33
  (with_reducible refine (CD.out _).mono ?_)
  rintro e v8 ⟨rfl, j⟩
  have Kv8 := Lib.hid j
  clear j
  go_wp2_with (first | (refine wpList_buildSlice_run (ps := #[(0, .agg IA), (1, .agg IC), (2, .agg ID), (3, .agg ID)]) rfl rfl rfl (H4.out _) ?_) | (refine wpList_wanted rfl (wp_buildSlice_run (ps := #[(0, .agg IA), (1, .agg IC), (2, .agg ID), (3, .agg ID)]) rfl rfl (H4.out _) ?_)))
  have r2 := rdi_new (l := [idk 1, idk 3, idk 4, idk 4]) (ids_k rfl) v8 41
  go_at_call 23
  refine (dead_k (some ⟨v8.heap.size, 0, none⟩) (some ⟨bm, 0, none⟩) none 4 0 [idk 1, idk 3, idk 4, idk 4] [] [idk 3, idk 4] 4 0 2 rfl rfl rfl (by decide) (by decide) _ r2 (HM.out.1.kp0 ((((Kv5.out.trans Kv6.out).trans Kv7.out).trans Kv8.out).trans ((Kp.refl (fun _ => False) v8).alloc (.cells (idC [idk 1, idk 3, idk 4, idk 4]).toArray 41)))) (RdI.nil _ _)).mono ?_
  rintro e v9 ⟨a6, c6, rfl, r6, j⟩
  have R6 := Lib.hid r6
  clear r6 r2
  have Kv9 := Lib.hid j
  clear j
  go_wp2_with fail
  go_at_call 32
  (with_reducible refine (CC.out _).mono ?_)
  rintro e v10 ⟨rfl, j⟩
  have Kv10 := Lib.hid j
  clear j
  go_wp2_with fail
  go_at_call 33
  (with_reducible refine (CD.out _).mono ?_)
  rintro e v11 ⟨rfl, j⟩
  have Kv11 := Lib.hid j
  clear j
  go_wp2_with (first | (refine wpList_buildSlice_run (ps := #[(0, .agg IC), (1, .agg ID)]) rfl rfl rfl (H2.out _) ?_) | (refine wpList_wanted rfl (wp_buildSlice_run (ps := #[(0, .agg IC), (1, .agg ID)]) rfl rfl (H2.out _) ?_)))
  have r7 := rdi_new (l := [idk 3, idk 4]) (ids_k rfl) v11 41
  go_at_call 26
  refine (sameids_eq a6 (some ⟨v11.heap.size, 0, none⟩) 2 c6 2 [idk 3, idk 4] rfl _ (R6.out.kp0 ((Kv10.out.trans Kv11.out).trans ((Kp.refl (fun _ => False) v11).alloc (.cells (idC [idk 3, idk 4]).toArray 41)))) r7 (by decide)).mono ?_
  rintro e v12 ⟨rfl, j⟩
  clear r7 R6
  have Kv12 := Lib.hid j
  clear j
  go_wp2_with fail
  go_at_call 30
  (with_reducible refine (CA.out _).mono ?_)
  rintro e v13 ⟨rfl, j⟩
  have Kv13 := Lib.hid j
  clear j
  go_wp2_with fail
  go_at_call 32
  (with_reducible refine (CC.out _).mono ?_)
  rintro e v14 ⟨rfl, j⟩
  have Kv14 := Lib.hid j
  clear j
  go_wp2_with fail
  go_at_call 33
  (with_reducible refine (CD.out _).mono ?_)
  rintro e v15 ⟨rfl, j⟩
  have Kv15 := Lib.hid j
  clear j
  go_wp2_with (first | (refine wpList_buildSlice_run (ps := #[(0, .agg IA), (1, .agg IC), (2, .agg ID)]) rfl rfl rfl (H3k.out _) ?_) | (refine wpList_wanted rfl (wp_buildSlice_run (ps := #[(0, .agg IA), (1, .agg IC), (2, .agg ID)]) rfl rfl (H3k.out _) ?_)))
  have R8 := Lib.hid (rdi_new (l := [idk 1, idk 3, idk 4]) (ids_k rfl) v15 41)
  go_at_call 33
  (with_reducible refine (CD.out _).mono ?_)
  rintro e v16 ⟨rfl, j⟩
  have Kv16 := Lib.hid j
  clear j
  go_wp2_with (first | (refine wpList_buildSlice_run (ps := #[(0, .agg ID)]) rfl rfl rfl (H1d.out _) ?_) | (refine wpList_wanted rfl (wp_buildSlice_run (ps := #[(0, .agg ID)]) rfl rfl (H1d.out _) ?_)))
  have r9 := rdi_one (idk 4) rfl v16
  rw [← HI.out.2.2.2] at r9
  go_at_call 23
  refine (dead_k (some ⟨v15.heap.size, 0, none⟩) (some ⟨bm, 0, none⟩) (some ⟨v16.heap.size, 0, none⟩) 3 1 [idk 1, idk 3, idk 4] [idk 4] [idk 3] 3 1 1 rfl rfl rfl (by decide) (by decide) _ (R8.out.kp0 (Kv16.out.trans ((Kp.refl (fun _ => False) v16).alloc (.cells ID 41)))) (HM.out.1.kp0 (((((((((((((((Kv5.out.trans Kv6.out).trans Kv7.out).trans Kv8.out).trans ((Kp.refl (fun _ => False) v8).alloc (.cells (idC [idk 1, idk 3, idk 4, idk 4]).toArray 41))).trans Kv9.out).trans Kv10.out).trans Kv11.out).trans ((Kp.refl (fun _ => False) v11).alloc (.cells (idC [idk 3, idk 4]).toArray 41))).trans Kv12.out).trans Kv13.out).trans Kv14.out).trans Kv15.out).trans ((Kp.refl (fun _ => False) v15).alloc (.cells (idC [idk 1, idk 3, idk 4]).toArray 41))).trans Kv16.out).trans ((Kp.refl (fun _ => False) v16).alloc (.cells ID 41)))) r9).mono ?_
  rintro e v17 ⟨a10, c10, rfl, r10, j⟩
  have R10 := Lib.hid r10
  clear r10 r9 R8
  have Kv17 := Lib.hid j
  clear j
  go_wp2_with fail
  go_at_call 32
  (with_reducible refine (CC.out _).mono ?_)
  rintro e v18 ⟨rfl, j⟩
  have Kv18 := Lib.hid j
  clear j
  go_wp2_with (first | (refine wpList_buildSlice_run (ps := #[(0, .agg IC)]) rfl rfl rfl (H1c.out _) ?_) | (refine wpList_wanted rfl (wp_buildSlice_run (ps := #[(0, .agg IC)]) rfl rfl (H1c.out _) ?_)))
  have r11 := rdi_one (idk 3) rfl v18
  rw [← HI.out.2.2.1] at r11
  go_at_call 26
  refine (sameids_eq a10 (some ⟨v18.heap.size, 0, none⟩) 1 c10 1 [idk 3] rfl _ (R10.out.kp0 (Kv18.out.trans ((Kp.refl (fun _ => False) v18).alloc (.cells IC 41)))) r11 (by decide)).mono ?_
  rintro e v19 ⟨rfl, j⟩
  clear r11 R10
  have Kv19 := Lib.hid j
  clear j
  go_upto_region 4 with fail
  refine wp_world (fun wx => At wx v19.heap.size pkKc ∧ Kp (fun _ => False) w wx) ?_ ?_
  · exact ⟨At.new v19 pkKc 27, (HM.out.2.trans (((((((((((((((((((Kv5.out.trans Kv6.out).trans Kv7.out).trans Kv8.out).trans ((Kp.refl (fun _ => False) v8).alloc (.cells (idC [idk 1, idk 3, idk 4, idk 4]).toArray 41))).trans Kv9.out).trans Kv10.out).trans Kv11.out).trans ((Kp.refl (fun _ => False) v11).alloc (.cells (idC [idk 3, idk 4]).toArray 41))).trans Kv12.out).trans Kv13.out).trans Kv14.out).trans Kv15.out).trans ((Kp.refl (fun _ => False) v15).alloc (.cells (idC [idk 1, idk 3, idk 4]).toArray 41))).trans Kv16.out).trans ((Kp.refl (fun _ => False) v16).alloc (.cells ID 41))).trans Kv17.out).trans Kv18.out).trans ((Kp.refl (fun _ => False) v18).alloc (.cells IC 41))).trans Kv19.out)).alloc _⟩
  rintro u0 ⟨hp, ku⟩
  obtain ⟨bp, hbp⟩ : ∃ bp, bp = v19.heap.size := ⟨_, rfl⟩
  rw [← hbp] at hp ⊢
  clear hbp
  have p0 := (hp.cell 0).trans (show _ = some (.int .i64 1) from rfl)
  have p1 := (hp.cell 1).trans (show _ = some (.int .i64 100) from rfl)
  have p2 := (hp.cell 2).trans (show _ = some (.int .i64 25) from rfl)
  have HP := Lib.hid (And.intro hp ku)
  clear hp ku
  have QE := Lib.hid (show (FloatKind.f64.format.order 4598175219545276416 4598175219545276416 == some .eq) = true by decide +kernel)
  go_wp2_with fail
  go_at_call 11
  refine (upart_q _).mono ?_
  rintro e u20 ⟨rfl, j⟩
  have qe := QE.out
  have p6 := (j.at HP.out.1 (fun h => h)).cell 6 |>.trans (show _ = some (.int .i64 3) from rfl)
  have p7 := (j.at HP.out.1 (fun h => h)).cell 7 |>.trans (show _ = some (.int .i64 0) from rfl)
  have p8 := (j.at HP.out.1 (fun h => h)).cell 8 |>.trans (show _ = some (.int .i64 0) from rfl)
  have Ku20 := Lib.hid j
  clear j
  go_wp2_with fail
  clear qe p0 p1 p2
  go_at_call 11
  refine (upart_n _).mono ?_
  rintro e u21 ⟨r, rfl, hr, j⟩
  have Ku21 := Lib.hid j
  clear j
  go_wp2_with fail
  clear p6 p7 p8
  go_at_call 34
  refine (isnan_yes hr _).mono ?_
  rintro e wq ⟨rfl, rfl⟩
  clear hr
  go_wp2_with fail
  go_at_call 9
  refine (choose_k bp 4598175219545276416 9 [2, 1] 2 rfl (fun W h1 h2 => chosenK1 h1 h2) _ (((Ku20.out.trans Ku21.out)).at HP.out.1 (fun h => h))).mono ?_
  rintro e u22 ⟨ao, co, rfl, ro, j⟩
  have RO := Lib.hid ro
  clear ro
  have Ku22 := Lib.hid j
  clear j
  go_wp2_with fail
  have ri : Rd (u22.alloc (.cells #[.int .i64 2, .int .i64 1] 3)) (some ⟨u22.heap.size, 0, none⟩) (intsZ [2, 1]) := Rd.new u22 (intsZ [2, 1]) 3
  go_at_call 13
  refine (sameints_k ao (some ⟨u22.heap.size, 0, none⟩) co 2 [2, 1] 2 rfl _ (RO.out.kp ((Kp.refl (fun _ => False) u22).alloc (.cells #[.int .i64 2, .int .i64 1] 3)) (fun _ _ h => h)) ri (by decide)).mono ?_
  rintro e u23 ⟨rfl, j⟩
  clear ri RO
  have Ku23 := Lib.hid j
  clear j
  go_wp2_with fail
  go_at_call 9
  refine (choose_k bp 4599075939470750515 9 [2] 1 rfl (fun W h1 h2 => chosenK2 h1 h2) _ ((((((Ku20.out.trans Ku21.out).trans Ku22.out).trans ((Kp.refl (fun _ => False) u22).alloc (.cells #[.int .i64 2, .int .i64 1] 3))).trans Ku23.out)).at HP.out.1 (fun h => h))).mono ?_
  rintro e u24 ⟨ao, co, rfl, ro, j⟩
  have RO := Lib.hid ro
  clear ro
  have Ku24 := Lib.hid j
  clear j
  go_wp2_with fail
  have ri : Rd (u24.alloc (.cells #[.int .i64 2] 3)) (some ⟨u24.heap.size, 0, none⟩) (intsZ [2]) := Rd.new u24 (intsZ [2]) 3
  go_at_call 13
  refine (sameints_k ao (some ⟨u24.heap.size, 0, none⟩) co 1 [2] 1 rfl _ (RO.out.kp ((Kp.refl (fun _ => False) u24).alloc (.cells #[.int .i64 2] 3)) (fun _ _ h => h)) ri (by decide)).mono ?_
  rintro e u25 ⟨rfl, j⟩
  clear ri RO
  have Ku25 := Lib.hid j
  clear j
  go_wp2_with fail
  go_at_call 9
  refine (choose_k bp 0 1 [2] 1 rfl (fun W h1 h2 => chosenK3 h1 h2) _ (((((((((Ku20.out.trans Ku21.out).trans Ku22.out).trans ((Kp.refl (fun _ => False) u22).alloc (.cells #[.int .i64 2, .int .i64 1] 3))).trans Ku23.out).trans Ku24.out).trans ((Kp.refl (fun _ => False) u24).alloc (.cells #[.int .i64 2] 3))).trans Ku25.out)).at HP.out.1 (fun h => h))).mono ?_
  rintro e u26 ⟨ao, co, rfl, ro, j⟩
  have RO := Lib.hid ro
  clear ro
  have Ku26 := Lib.hid j
  clear j
  go_wp2_with fail
  have ri : Rd (u26.alloc (.cells #[.int .i64 2] 3)) (some ⟨u26.heap.size, 0, none⟩) (intsZ [2]) := Rd.new u26 (intsZ [2]) 3
  go_at_call 13
  refine (sameints_k ao (some ⟨u26.heap.size, 0, none⟩) co 1 [2] 1 rfl _ (RO.out.kp ((Kp.refl (fun _ => False) u26).alloc (.cells #[.int .i64 2] 3)) (fun _ _ h => h)) ri (by decide)).mono ?_
  rintro e u27 ⟨rfl, j⟩
  clear ri RO
  have Ku27 := Lib.hid j
  clear j
  go_wp2_with fail
  go_at_call 15
  refine (awake_any _).mono ?_
  rintro e u28 ⟨rfl, j⟩
  have Ku28 := Lib.hid j
  clear j
  go_wp2_with fail
  go_at_call 35
  refine (mnan_any _).mono ?_
  rintro e wq ⟨rfl, rfl⟩
  go_wp2_with fail
  go_at_call 9
  refine (choose_k bp 9221120237041090561 9 [2, 1, 3] 3 rfl (fun W h1 h2 => chosenK4 h1 h2) _ (((((((((((((Ku20.out.trans Ku21.out).trans Ku22.out).trans ((Kp.refl (fun _ => False) u22).alloc (.cells #[.int .i64 2, .int .i64 1] 3))).trans Ku23.out).trans Ku24.out).trans ((Kp.refl (fun _ => False) u24).alloc (.cells #[.int .i64 2] 3))).trans Ku25.out).trans Ku26.out).trans ((Kp.refl (fun _ => False) u26).alloc (.cells #[.int .i64 2] 3))).trans Ku27.out).trans Ku28.out)).at HP.out.1 (fun h => h))).mono ?_
  rintro e u29 ⟨ao, co, rfl, ro, j⟩
  have RO := Lib.hid ro
  clear ro
  have Ku29 := Lib.hid j
  clear j
  go_wp2_with fail
  have ri : Rd (u29.alloc (.cells #[.int .i64 2, .int .i64 1, .int .i64 3] 3)) (some ⟨u29.heap.size, 0, none⟩) (intsZ [2, 1, 3]) := Rd.new u29 (intsZ [2, 1, 3]) 3
  go_at_call 13
  refine (sameints_k ao (some ⟨u29.heap.size, 0, none⟩) co 3 [2, 1, 3] 3 rfl _ (RO.out.kp ((Kp.refl (fun _ => False) u29).alloc (.cells #[.int .i64 2, .int .i64 1, .int .i64 3] 3)) (fun _ _ h => h)) ri (by decide)).mono ?_
  rintro e u30 ⟨rfl, j⟩
  clear ri RO
  have Ku30 := Lib.hid j
  clear j
  go_wp2_with fail
  go_at_call 9
  refine (choose_k bp 0 0 [] 0 rfl (fun W h1 h2 => chosenK5) _ ((((((((((((((((Ku20.out.trans Ku21.out).trans Ku22.out).trans ((Kp.refl (fun _ => False) u22).alloc (.cells #[.int .i64 2, .int .i64 1] 3))).trans Ku23.out).trans Ku24.out).trans ((Kp.refl (fun _ => False) u24).alloc (.cells #[.int .i64 2] 3))).trans Ku25.out).trans Ku26.out).trans ((Kp.refl (fun _ => False) u26).alloc (.cells #[.int .i64 2] 3))).trans Ku27.out).trans Ku28.out).trans Ku29.out).trans ((Kp.refl (fun _ => False) u29).alloc (.cells #[.int .i64 2, .int .i64 1, .int .i64 3] 3))).trans Ku30.out)).at HP.out.1 (fun h => h))).mono ?_
  rintro e u31 ⟨ao, co, rfl, ro, j⟩
  have RO := Lib.hid ro
  clear ro
  have Ku31 := Lib.hid j
  clear j
  go_wp2_with fail
  go_ret
  exact ⟨rfl, (HP.out.2.trans (((((((((((((((Ku20.out.trans Ku21.out).trans Ku22.out).trans ((Kp.refl (fun _ => False) u22).alloc (.cells #[.int .i64 2, .int .i64 1] 3))).trans Ku23.out).trans Ku24.out).trans ((Kp.refl (fun _ => False) u24).alloc (.cells #[.int .i64 2] 3))).trans Ku25.out).trans Ku26.out).trans ((Kp.refl (fun _ => False) u26).alloc (.cells #[.int .i64 2] 3))).trans Ku27.out).trans Ku28.out).trans Ku29.out).trans ((Kp.refl (fun _ => False) u29).alloc (.cells #[.int .i64 2, .int .i64 1, .int .i64 3] 3))).trans Ku30.out).trans Ku31.out)).below (fun _ _ h => h)⟩
end Go.Proofs.Ytaibdkdmilhloaa
