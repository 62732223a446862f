/- RefsLost: the walk. (Written by wip/reflost.py.) -/
import Derived.Test.YtaibdkdmilhloaaQAwk
import Derived.Test.YtaibdkdmilhloaaQCnt
import Derived.Test.YtaibdkdmilhloaaQIdO
import Derived.Test.YtaibdkdmilhloaaQIdP
import Derived.Test.YtaibdkdmilhloaaQIdX
namespace Go.Proofs.Ytaibdkdmilhloaa
open Go.RowKit
set_option linter.unusedVariables false
set_option linter.unusedSimpArgs false
theorem refsLost_big (a0 a1 : Option Addr) (n0 c0 n1 c1 : Nat) (ms : List (List (List Id))) (w : World) (hn0 : n0 = ms.length) (hm : RdM w a0 ms) (hb : bulkM ms ≤ 2000000) (hB : bigB ms n1 = true) :
    Calls Try.prog 4 #[.slice a0 n0 c0, .slice a1 n1 c1] w fun e w' => e = .returned (.bool true) ∧ Below w.heap.size w w' := by
  have CB := Lib.hid (fun w' (k : Kp (fun _ => False) w w') => big_any a0 a1 n0 c0 n1 c1 ms w' hn0 (hm.kp0 k) hb)
  rw [hB] at CB
  clear hn0 hm hb hB
  go_enter Try.func4, Try.ntmps4
  go_wp2_with fail
  go_at_call 15
  refine (awake_any _).mono ?_
  rintro e w1 ⟨rfl, k1⟩
  have K1 := Lib.hid k1
  clear k1
  go_wp2_with fail
  go_at_call 16
  refine (CB.out _ K1.out).mono ?_
  rintro e w2 ⟨rfl, k2⟩
  have K2 := Lib.hid k2
  clear k2
  go_wp2_with fail
  go_ret
  exact ⟨rfl, (K1.out.trans K2.out).below (fun _ _ h => h)⟩
theorem bigB_no {ms : List (List (List Id))} {n : Nat} (h : bigB ms n = false) : ms.length ≤ 8 ∧ bulkM ms ≤ 300 ∧ n ≤ 200 := by
  unfold bigB at h
  simp only [Bool.or_eq_false_iff, decide_eq_false_iff_not] at h
  omega
set_option maxHeartbeats 4000000 in
set_option maxRecDepth 20000 in
theorem refsLost_main (a0 a1 : Option Addr) (n0 c0 n1 c1 : Nat) (ms : List (List (List Id))) (L : List Id) (w : World) (hn0 : n0 = ms.length) (hn1 : n1 = L.length) (hm : RdM w a0 ms) (hl : RdI w a1 L) (hB : bigB ms n1 = false) :
    Calls Try.prog 4 #[.slice a0 n0 c0, .slice a1 n1 c1] w fun e w' => e = .returned (.bool true) ∧ Below w.heap.size w w' := by
  obtain ⟨q1, q2, q3⟩ := bigB_no hB
  have q4 := allI_bulk ms
  have cb := fun w' (k : Kp (fun _ => False) w w') => big_any a0 a1 n0 c0 n1 c1 ms w' hn0 (hm.kp0 k) (by omega)
  rw [hB] at cb
  have cl := fun w' (k : Kp (fun _ => False) w w') => lost_any a0 a1 n0 c0 n1 c1 ms L w' hn0 hn1 (hm.kp0 k) (hl.kp0 k) (by omega)
  have cc := fun w' (k : Kp (fun _ => False) w w') => count_any a0 n0 c0 ms w' hn0 (hm.kp0 k) (by omega)
  obtain ⟨A, hA⟩ : ∃ A, A = allI ms := ⟨_, rfl⟩
  rw [← hA] at cl cc q4
  have CB := Lib.hid cb
  have CL := Lib.hid cl
  have CC := Lib.hid cc
  have q5 : A.length ≤ 300 := by omega
  have H := Lib.hid (And.intro hl (And.intro hn1 q5))
  have hln := newL_len [] A
  have hAb : (newL [] A).length ≤ 300 := by omega
  have hlo := newL_len L A
  clear cb cl cc hm hB hn0 hn1 q1 q2 hA hl q4 q5
  go_enter Try.func4, Try.ntmps4
  go_wp2_with fail
  go_at_call 15
  refine (awake_any _).mono ?_
  rintro e w1 ⟨rfl, k1⟩
  have K1 := Lib.hid k1
  clear k1
  go_wp2_with fail
  go_at_call 16
  refine (CB.out _ K1.out).mono ?_
  rintro e w2 ⟨rfl, k2⟩
  have K2 := Lib.hid (K1.out.trans k2)
  clear k2
  go_wp2_with fail
  go_at_call 17
  refine (CL.out _ K2.out).mono ?_
  rintro e w3 ⟨v3, rfl, ho3, hg3, k3⟩
  obtain ⟨ax, cx, rfl, hr3, hc3⟩ := ho3.form
  obtain ⟨LO, hLO⟩ : ∃ LO, LO = newL L A := ⟨_, rfl⟩
  rw [← hLO] at hr3 hc3 hlo ⊢
  obtain ⟨m, hm⟩ : ∃ m, m = LO.length := ⟨_, rfl⟩
  rw [← hm] at hc3 hlo ⊢
  have hmb : m ≤ 300 := by have := H.out.2.2; omega
  have R3 := Lib.hid (And.intro hr3 (And.intro k3 (And.intro hLO hm)))
  have K3 := Lib.hid (K2.out.trans k3)
  clear ho3 hg3 hr3 k3 hLO hm
  go_wp2_with fail
  go_at_call 18
  refine (CC.out _ K3.out).mono ?_
  rintro e w4 ⟨v4, rfl, ho4, hg4, k4⟩
  obtain ⟨an, cn, rfl, hr4, hc4⟩ := ho4.form
  have hcl := cntL_len A
  rw [hcl] at hc4 ⊢
  obtain ⟨NN, hNN⟩ : ∃ NN, NN = (newL [] A).length := ⟨_, rfl⟩
  rw [← hNN] at hc4 hAb hln ⊢
  have R4 := Lib.hid (And.intro hr4 (And.intro hNN k4))
  clear ho4 hg4 hr4 hcl hNN k4
  go_wp2_with fail
  go_loopw [8, 9] (fun nv iv wr => ∃ i : Nat, i ≤ NN ∧ iv = .int .i64 i ∧ nv = .int .i64 ((((newL [] A).take i).filter (fun x => decide (x ∉ L))).length : Nat) ∧ Kp (fun _ => False) w4 wr) (fun _ iv _ => NN - (intOf iv).toNat)
  case atStart => exact ⟨0, by omega, rfl, by simp, Kp.refl _ _⟩
  case round =>
    obtain ⟨i, hi, rfl, rfl, hk⟩ := hrel
    have HK := Lib.hid hk
    have hcn : (((newL [] A).take i).filter (fun x => decide (x ∉ L))).length ≤ i := Nat.le_trans (List.length_filter_le _ _) (List.length_take_le _ _)
    clear hk
    by_cases hlt : i < NN
    · have j1 : (i : Int) < NN := by omega
      have hii : i < (newL [] A).length := by rw [← R4.out.2.1]; exact hlt
      obtain ⟨b, o, e1, hr, _, hx16⟩ := (R4.out.1.kp0 HK.out).id hii
      subst e1
      have htk : (newL [] A).take (i + 1) = (newL [] A).take i ++ [idn (newL [] A) i] := take_snoc (newL [] A) [] i hii
      have hmem : idn (newL [] A) i ∈ A := by
        have : idn (newL [] A) i ∈ newL [] A := by unfold idn; rw [List.getD_eq_getElem?_getD, List.getElem?_eq_getElem hii]; exact List.getElem_mem _
        exact ((newL_mem [] A _).1 this).1
      obtain ⟨x, hx⟩ : ∃ x, x = idn (newL [] A) i := ⟨_, rfl⟩
      rw [← hx] at hr hx16 htk hmem
      have hone : (((newL [] A).take (i + 1)).filter (fun x => decide (x ∉ L))).length = if x ∈ LO then (((newL [] A).take i).filter (fun x => decide (x ∉ L))).length + 1 else (((newL [] A).take i).filter (fun x => decide (x ∉ L))).length := by
        rw [htk, List.filter_append, List.length_append, R3.out.2.2.1]
        by_cases h : x ∈ L
        · rw [if_neg (fun h' => ((newL_mem L A x).1 h').2 h)]; simp [h]
        · rw [if_pos ((newL_mem L A x).2 ⟨hmem, h⟩)]; simp [h]
      have hiff : x ∈ LO ↔ x ∉ L := by
        rw [R3.out.2.2.1, newL_mem]
        exact ⟨fun h => h.2, fun h => ⟨hmem, h⟩⟩
      have HX := Lib.hid (And.intro hx (And.intro hx16 (And.intro hone hiff)))
      have ql := fun w' (k : Kp (fun _ => False) wr w') => load_id (rangeAt_kp hr k (fun h => h)) hx16
      have aml := And.intro (fun hm w' (k : Kp (fun _ => False) wr w') => among_yes ax m cx LO R3.out.2.2.2 x hx16 hm w' ((R3.out.1.kp0 (R4.out.2.2.trans HK.out)).kp0 k) (by omega)) (fun hm w' (k : Kp (fun _ => False) wr w') => among_no ax m cx LO R3.out.2.2.2 x hx16 hm w' ((R3.out.1.kp0 (R4.out.2.2.trans HK.out)).kp0 k) (by omega))
      have ama := And.intro (fun hm w' (k : Kp (fun _ => False) wr w') => among_yes a1 n1 c1 L H.out.2.1 x hx16 hm w' ((H.out.1.kp0 ((K3.out.trans R4.out.2.2).trans HK.out)).kp0 k) (by omega)) (fun hm w' (k : Kp (fun _ => False) wr w') => among_no a1 n1 c1 L H.out.2.1 x hx16 hm w' ((H.out.1.kp0 ((K3.out.trans R4.out.2.2).trans HK.out)).kp0 k) (by omega))
      have hv := idV_B x
      rw [hv] at ql
      obtain ⟨VA, hVA⟩ : ∃ VA, VA = idB x := ⟨_, rfl⟩
      rw [← hVA] at ql aml ama
      have HL := Lib.hid ql
      have AML := Lib.hid aml
      have AMA := Lib.hid ama
      obtain ⟨C, hC⟩ : ∃ C, C = (((newL [] A).take i).filter (fun x => decide (x ∉ L))).length := ⟨_, rfl⟩
      rw [← hC] at HX hcn ⊢
      clear hii hr hx16 htk hmem hx hone hiff ql aml ama hv hVA hC
      by_cases hin : x ∈ LO
      · have IN := Lib.hid hin
        have IA := Lib.hid (HX.out.2.2.2.1 hin)
        clear hin
        go_upto_region 9 with fail
        refine region_L (S := fun w' => Kp (fun _ => False) wr w') [] rfl ?_
        have hSd : ∀ (w' : World) (n' : Nat), Kp (fun _ => False) wr w' → Kp (fun _ => False) wr (w'.drewN n') := fun w' n' h => h.drewN n'
        have hS0 : Kp (fun _ => False) wr wr.drew := (Kp.refl _ wr).drew
        refine anyL_world (fun w' => Kp (fun _ => False) wr w') hS0 ?_
        clear hS0
        intro x0 kx0
        refine anyL_takeF (i := 0) (d := 26) (v := (.slice ax m cx)) rfl rfl (by kernel_rfl) (by kernel_rfl) (by kernel_rfl) (fun _ _ _ h => h) hSd (by kernel_rfl) (.inl (.inl ⟨rfl, fun w' hS => by first | rfl | go_simp⟩)) (fun _ => kx0) ?_
        try simp only [List.setIfInBounds_toArray, List.set_cons_succ, List.set_cons_zero]
        refine anyL_takeF (i := 1) (d := 27) (v := (.slice (some ⟨b, o, none⟩) NN cn)) rfl rfl (by kernel_rfl) (by kernel_rfl) (by kernel_rfl) (fun _ _ _ h => h) hSd (by kernel_rfl) (.inl (.inl ⟨rfl, fun w' hS => by first | rfl | go_simp⟩)) (fun _ => kx0) ?_
        try simp only [List.setIfInBounds_toArray, List.set_cons_succ, List.set_cons_zero]
        refine anyL_takeF (i := 2) (d := 28) (v := (.int .i64 (i : Nat))) rfl rfl (by kernel_rfl) (by kernel_rfl) (by kernel_rfl) (fun _ _ _ h => h) hSd (by kernel_rfl) (.inl (.inl ⟨rfl, fun w' hS => by first | rfl | go_simp⟩)) (fun _ => kx0) ?_
        try simp only [List.setIfInBounds_toArray, List.set_cons_succ, List.set_cons_zero]
        refine anyL_takeF (i := 3) (d := 29) (v := (.pointer (some ⟨b, o + i * 17, none⟩))) rfl rfl (by kernel_rfl) (by kernel_rfl) (by kernel_rfl) (fun _ _ _ h => h) hSd (by kernel_rfl) (.inl (.inl ⟨rfl, fun w' hS => by first | rfl | go_simp⟩)) (fun _ => kx0) ?_
        try simp only [List.setIfInBounds_toArray, List.set_cons_succ, List.set_cons_zero]
        refine anyL_takeF (i := 4) (d := 30) (v := (.pointer (some ⟨b, o + i * 17, none⟩))) rfl rfl (by kernel_rfl) (by kernel_rfl) (by kernel_rfl) (fun _ _ _ h => h) hSd (by kernel_rfl) (.inl (.inl ⟨rfl, fun w' hS => by first | rfl | go_simp⟩)) (fun _ => kx0) ?_
        try simp only [List.setIfInBounds_toArray, List.set_cons_succ, List.set_cons_zero]
        refine anyL_takeD (i := 5) (d := 31) (v := (.agg VA)) rfl rfl (by kernel_rfl) (by kernel_rfl) (by kernel_rfl) (fun _ _ _ h => h) hSd (by kernel_rfl) (.inl (.inl ⟨rfl, fun w' hS => exec_load rfl rfl (HL.out w' hS)⟩)) kx0 ?_
        try simp only [List.setIfInBounds_toArray, List.set_cons_succ, List.set_cons_zero]
        refine anyL_takeF (i := 7) (d := 33) (v := (.slice a1 n1 c1)) rfl rfl (by kernel_rfl) (by kernel_rfl) (by kernel_rfl) (fun _ _ _ h => h) hSd (by kernel_rfl) (.inl (.inl ⟨rfl, fun w' hS => by first | rfl | go_simp⟩)) (fun _ => kx0) ?_
        try simp only [List.setIfInBounds_toArray, List.set_cons_succ, List.set_cons_zero]
        refine anyL_takeF (i := 8) (d := 34) (v := (.slice (some ⟨b, o, none⟩) NN cn)) rfl rfl (by kernel_rfl) (by kernel_rfl) (by kernel_rfl) (fun _ _ _ h => h) hSd (by kernel_rfl) (.inl (.inl ⟨rfl, fun w' hS => by first | rfl | go_simp⟩)) (fun _ => kx0) ?_
        try simp only [List.setIfInBounds_toArray, List.set_cons_succ, List.set_cons_zero]
        refine anyL_takeF (i := 9) (d := 35) (v := (.int .i64 (i : Nat))) rfl rfl (by kernel_rfl) (by kernel_rfl) (by kernel_rfl) (fun _ _ _ h => h) hSd (by kernel_rfl) (.inl (.inl ⟨rfl, fun w' hS => by first | rfl | go_simp⟩)) (fun _ => kx0) ?_
        try simp only [List.setIfInBounds_toArray, List.set_cons_succ, List.set_cons_zero]
        refine anyL_takeF (i := 10) (d := 36) (v := (.pointer (some ⟨b, o + i * 17, none⟩))) rfl rfl (by kernel_rfl) (by kernel_rfl) (by kernel_rfl) (fun _ _ _ h => h) hSd (by kernel_rfl) (.inl (.inl ⟨rfl, fun w' hS => by first | rfl | go_simp⟩)) (fun _ => kx0) ?_
        try simp only [List.setIfInBounds_toArray, List.set_cons_succ, List.set_cons_zero]
        refine anyL_takeF (i := 11) (d := 37) (v := (.pointer (some ⟨b, o + i * 17, none⟩))) rfl rfl (by kernel_rfl) (by kernel_rfl) (by kernel_rfl) (fun _ _ _ h => h) hSd (by kernel_rfl) (.inl (.inl ⟨rfl, fun w' hS => by first | rfl | go_simp⟩)) (fun _ => kx0) ?_
        try simp only [List.setIfInBounds_toArray, List.set_cons_succ, List.set_cons_zero]
        refine anyL_takeD (i := 12) (d := 38) (v := (.agg VA)) rfl rfl (by kernel_rfl) (by kernel_rfl) (by kernel_rfl) (fun _ _ _ h => h) hSd (by kernel_rfl) (.inl (.inl ⟨rfl, fun w' hS => exec_load rfl rfl (HL.out w' hS)⟩)) kx0 ?_
        try simp only [List.setIfInBounds_toArray, List.set_cons_succ, List.set_cons_zero]
        refine anyL_all (rs := [6]) (by kernel_rfl) (by simp) ?_
        intro n6 i hi
        simp only [List.mem_cons, List.not_mem_nil, or_false] at hi
        obtain rfl := hi
        refine wpOp_of rfl rfl ?_
        go_simp
        refine Calls.mono ((AML.out.1 IN.out) (x0.drewN n6) (kx0.drewN n6)) ?_
        rintro e x1 ⟨rfl, j⟩
        try dsimp only
        have kx1 : Kp (fun _ => False) wr x1 := (kx0.drewN n6).trans j
        refine ⟨fun _ => kx1, ?_⟩
        try simp only [List.setIfInBounds_toArray, List.set_cons_succ, List.set_cons_zero]
        refine anyL_all (rs := [13]) (by kernel_rfl) (by simp) ?_
        intro n13 i hi
        simp only [List.mem_cons, List.not_mem_nil, or_false] at hi
        obtain rfl := hi
        refine wpOp_of rfl rfl ?_
        go_simp
        refine Calls.mono ((AMA.out.2 IA.out) (x1.drewN n13) (kx1.drewN n13)) ?_
        rintro e x2 ⟨rfl, j⟩
        try dsimp only
        have kx2 : Kp (fun _ => False) wr x2 := (kx1.drewN n13).trans j
        refine ⟨fun _ => kx2, ?_⟩
        try simp only [List.setIfInBounds_toArray, List.set_cons_succ, List.set_cons_zero]
        refine anyL_takeF (i := 14) (d := 40) (v := (.bool false)) rfl rfl (by kernel_rfl) (by kernel_rfl) (by kernel_rfl) (fun _ _ _ h => h) hSd (by kernel_rfl) (.inl (.inl ⟨rfl, fun w' hS => by go_simp⟩)) (fun _ => kx2) ?_
        try simp only [List.setIfInBounds_toArray, List.set_cons_succ, List.set_cons_zero]
        refine anyL_done (by kernel_rfl) (fun nn => ?_) _
        have kw9 := kx2.drewN nn
        generalize x2.drewN nn = w9 at *
        have K9 := Lib.hid kw9
        have HL9 := Lib.hid (HL.out w9 kw9)
        clear kw9 hSd
        go_wp2_with (refine wpList_load_run HL9.out rfl rfl rfl ?_)
        go_at_call 19
        refine ((AML.out.1 IN.out) _ K9.out).mono ?_
        rintro e w10 ⟨rfl, k10⟩
        have K10 := Lib.hid k10
        clear k10
        go_wp2_with fail
        go_roundw
        case rel =>
          have h1 := HX.out.2.2.1
          have h2 := IN.out
          refine ⟨i + 1, by omega, by go_num, ?_, (HK.out.trans K9.out).trans K10.out⟩
          rw [h1, if_pos h2]; go_num
        case measure => simp [intOf]; omega
      · have IN := Lib.hid hin
        have IA := Lib.hid (show x ∈ L from Classical.byContradiction fun h => hin (HX.out.2.2.2.2 h))
        clear hin
        go_upto_region 9 with fail
        refine region_L (S := fun w' => Kp (fun _ => False) wr w') [] rfl ?_
        have hSd : ∀ (w' : World) (n' : Nat), Kp (fun _ => False) wr w' → Kp (fun _ => False) wr (w'.drewN n') := fun w' n' h => h.drewN n'
        have hS0 : Kp (fun _ => False) wr wr.drew := (Kp.refl _ wr).drew
        refine anyL_world (fun w' => Kp (fun _ => False) wr w') hS0 ?_
        clear hS0
        intro x0 kx0
        refine anyL_takeF (i := 0) (d := 26) (v := (.slice ax m cx)) rfl rfl (by kernel_rfl) (by kernel_rfl) (by kernel_rfl) (fun _ _ _ h => h) hSd (by kernel_rfl) (.inl (.inl ⟨rfl, fun w' hS => by first | rfl | go_simp⟩)) (fun _ => kx0) ?_
        try simp only [List.setIfInBounds_toArray, List.set_cons_succ, List.set_cons_zero]
        refine anyL_takeF (i := 1) (d := 27) (v := (.slice (some ⟨b, o, none⟩) NN cn)) rfl rfl (by kernel_rfl) (by kernel_rfl) (by kernel_rfl) (fun _ _ _ h => h) hSd (by kernel_rfl) (.inl (.inl ⟨rfl, fun w' hS => by first | rfl | go_simp⟩)) (fun _ => kx0) ?_
        try simp only [List.setIfInBounds_toArray, List.set_cons_succ, List.set_cons_zero]
        refine anyL_takeF (i := 2) (d := 28) (v := (.int .i64 (i : Nat))) rfl rfl (by kernel_rfl) (by kernel_rfl) (by kernel_rfl) (fun _ _ _ h => h) hSd (by kernel_rfl) (.inl (.inl ⟨rfl, fun w' hS => by first | rfl | go_simp⟩)) (fun _ => kx0) ?_
        try simp only [List.setIfInBounds_toArray, List.set_cons_succ, List.set_cons_zero]
        refine anyL_takeF (i := 3) (d := 29) (v := (.pointer (some ⟨b, o + i * 17, none⟩))) rfl rfl (by kernel_rfl) (by kernel_rfl) (by kernel_rfl) (fun _ _ _ h => h) hSd (by kernel_rfl) (.inl (.inl ⟨rfl, fun w' hS => by first | rfl | go_simp⟩)) (fun _ => kx0) ?_
        try simp only [List.setIfInBounds_toArray, List.set_cons_succ, List.set_cons_zero]
        refine anyL_takeF (i := 4) (d := 30) (v := (.pointer (some ⟨b, o + i * 17, none⟩))) rfl rfl (by kernel_rfl) (by kernel_rfl) (by kernel_rfl) (fun _ _ _ h => h) hSd (by kernel_rfl) (.inl (.inl ⟨rfl, fun w' hS => by first | rfl | go_simp⟩)) (fun _ => kx0) ?_
        try simp only [List.setIfInBounds_toArray, List.set_cons_succ, List.set_cons_zero]
        refine anyL_takeD (i := 5) (d := 31) (v := (.agg VA)) rfl rfl (by kernel_rfl) (by kernel_rfl) (by kernel_rfl) (fun _ _ _ h => h) hSd (by kernel_rfl) (.inl (.inl ⟨rfl, fun w' hS => exec_load rfl rfl (HL.out w' hS)⟩)) kx0 ?_
        try simp only [List.setIfInBounds_toArray, List.set_cons_succ, List.set_cons_zero]
        refine anyL_takeF (i := 7) (d := 33) (v := (.slice a1 n1 c1)) rfl rfl (by kernel_rfl) (by kernel_rfl) (by kernel_rfl) (fun _ _ _ h => h) hSd (by kernel_rfl) (.inl (.inl ⟨rfl, fun w' hS => by first | rfl | go_simp⟩)) (fun _ => kx0) ?_
        try simp only [List.setIfInBounds_toArray, List.set_cons_succ, List.set_cons_zero]
        refine anyL_takeF (i := 8) (d := 34) (v := (.slice (some ⟨b, o, none⟩) NN cn)) rfl rfl (by kernel_rfl) (by kernel_rfl) (by kernel_rfl) (fun _ _ _ h => h) hSd (by kernel_rfl) (.inl (.inl ⟨rfl, fun w' hS => by first | rfl | go_simp⟩)) (fun _ => kx0) ?_
        try simp only [List.setIfInBounds_toArray, List.set_cons_succ, List.set_cons_zero]
        refine anyL_takeF (i := 9) (d := 35) (v := (.int .i64 (i : Nat))) rfl rfl (by kernel_rfl) (by kernel_rfl) (by kernel_rfl) (fun _ _ _ h => h) hSd (by kernel_rfl) (.inl (.inl ⟨rfl, fun w' hS => by first | rfl | go_simp⟩)) (fun _ => kx0) ?_
        try simp only [List.setIfInBounds_toArray, List.set_cons_succ, List.set_cons_zero]
        refine anyL_takeF (i := 10) (d := 36) (v := (.pointer (some ⟨b, o + i * 17, none⟩))) rfl rfl (by kernel_rfl) (by kernel_rfl) (by kernel_rfl) (fun _ _ _ h => h) hSd (by kernel_rfl) (.inl (.inl ⟨rfl, fun w' hS => by first | rfl | go_simp⟩)) (fun _ => kx0) ?_
        try simp only [List.setIfInBounds_toArray, List.set_cons_succ, List.set_cons_zero]
        refine anyL_takeF (i := 11) (d := 37) (v := (.pointer (some ⟨b, o + i * 17, none⟩))) rfl rfl (by kernel_rfl) (by kernel_rfl) (by kernel_rfl) (fun _ _ _ h => h) hSd (by kernel_rfl) (.inl (.inl ⟨rfl, fun w' hS => by first | rfl | go_simp⟩)) (fun _ => kx0) ?_
        try simp only [List.setIfInBounds_toArray, List.set_cons_succ, List.set_cons_zero]
        refine anyL_takeD (i := 12) (d := 38) (v := (.agg VA)) rfl rfl (by kernel_rfl) (by kernel_rfl) (by kernel_rfl) (fun _ _ _ h => h) hSd (by kernel_rfl) (.inl (.inl ⟨rfl, fun w' hS => exec_load rfl rfl (HL.out w' hS)⟩)) kx0 ?_
        try simp only [List.setIfInBounds_toArray, List.set_cons_succ, List.set_cons_zero]
        refine anyL_all (rs := [6]) (by kernel_rfl) (by simp) ?_
        intro n6 i hi
        simp only [List.mem_cons, List.not_mem_nil, or_false] at hi
        obtain rfl := hi
        refine wpOp_of rfl rfl ?_
        go_simp
        refine Calls.mono ((AML.out.2 IN.out) (x0.drewN n6) (kx0.drewN n6)) ?_
        rintro e x1 ⟨rfl, j⟩
        try dsimp only
        have kx1 : Kp (fun _ => False) wr x1 := (kx0.drewN n6).trans j
        refine ⟨fun _ => kx1, ?_⟩
        try simp only [List.setIfInBounds_toArray, List.set_cons_succ, List.set_cons_zero]
        refine anyL_all (rs := [13]) (by kernel_rfl) (by simp) ?_
        intro n13 i hi
        simp only [List.mem_cons, List.not_mem_nil, or_false] at hi
        obtain rfl := hi
        refine wpOp_of rfl rfl ?_
        go_simp
        refine Calls.mono ((AMA.out.1 IA.out) (x1.drewN n13) (kx1.drewN n13)) ?_
        rintro e x2 ⟨rfl, j⟩
        try dsimp only
        have kx2 : Kp (fun _ => False) wr x2 := (kx1.drewN n13).trans j
        refine ⟨fun _ => kx2, ?_⟩
        try simp only [List.setIfInBounds_toArray, List.set_cons_succ, List.set_cons_zero]
        refine anyL_takeF (i := 14) (d := 40) (v := (.bool false)) rfl rfl (by kernel_rfl) (by kernel_rfl) (by kernel_rfl) (fun _ _ _ h => h) hSd (by kernel_rfl) (.inl (.inl ⟨rfl, fun w' hS => by go_simp⟩)) (fun _ => kx2) ?_
        try simp only [List.setIfInBounds_toArray, List.set_cons_succ, List.set_cons_zero]
        refine anyL_done (by kernel_rfl) (fun nn => ?_) _
        have kw9 := kx2.drewN nn
        generalize x2.drewN nn = w9 at *
        have K9 := Lib.hid kw9
        have HL9 := Lib.hid (HL.out w9 kw9)
        clear kw9 hSd
        go_wp2_with (refine wpList_load_run HL9.out rfl rfl rfl ?_)
        go_at_call 19
        refine ((AML.out.2 IN.out) _ K9.out).mono ?_
        rintro e w10 ⟨rfl, k10⟩
        have K10 := Lib.hid k10
        clear k10
        go_wp2_with fail
        go_roundw
        case rel =>
          have h1 := HX.out.2.2.1
          have h2 := IN.out
          refine ⟨i + 1, by omega, by go_num, ?_, (HK.out.trans K9.out).trans K10.out⟩
          rw [h1, if_neg h2]
        case measure => simp [intOf]; omega
    · obtain rfl : NN = i := by omega
      have hf : (((newL [] A).take NN).filter (fun x => decide (x ∉ L))).length = m := by
        rw [R4.out.2.1, List.take_length, ← newL_filter, R3.out.2.2.2, R3.out.2.2.1]
      rw [hf]
      clear hf hlt hcn
      go_wp2_with fail
      go_ret
      exact ⟨rfl, ((K3.out.trans R4.out.2.2).trans HK.out).below (fun _ _ h => h)⟩
theorem refsLost_walk (a0 : Option Addr) (len0 cap0 : Nat) (a1 : Option Addr) (len1 cap1 : Nat) (w : World) (r0 : Rdu Try.prog w 33 [.slice a0 len0 cap0] 1048576) (r1 : Rdu Try.prog w 34 [.slice a1 len1 cap1] 1048576) :
    Calls Try.prog 4 #[.slice a0 len0 cap0, .slice a1 len1 cap1] w fun e w' => e = .returned (.bool true) ∧ Below w.heap.size w w' := by
  obtain ⟨a, ms, cap, e, hm, _, hb, _⟩ := open_mans r0 (by omega)
  obtain ⟨a', L, cap', e', hl, _, _⟩ := open_ids r1
  simp only [List.cons.injEq, Value.slice.injEq, and_true] at e e'
  obtain ⟨rfl, rfl, rfl⟩ := e
  obtain ⟨rfl, rfl, rfl⟩ := e'
  cases hB : bigB ms L.length
  · exact refsLost_main _ _ _ _ _ _ ms L w rfl rfl hm hl hB
  · exact refsLost_big _ _ _ _ _ _ ms w rfl hm (by omega) hB
end Go.Proofs.Ytaibdkdmilhloaa
