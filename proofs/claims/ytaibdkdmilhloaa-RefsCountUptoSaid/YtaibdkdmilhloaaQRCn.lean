/- The document's Count. (Written by wip/ref20m.py.) -/
import Derived.Test.YtaibdkdmilhloaaQNmM
import Derived.Test.YtaibdkdmilhloaaQCntA
import Derived.Test.YtaibdkdmilhloaaQRAl
import Derived.Test.YtaibdkdmilhloaaQRunL
namespace Go.Proofs.Ytaibdkdmilhloaa
open Go.RowKit
set_option linter.unusedVariables false
set_option linter.unusedSimpArgs false
theorem newL_one (A : List Id) (i : Nat) (hi : i < A.length) : newL [] (A.take (i + 1)) = if idn A i ∈ A.take i then newL [] (A.take i) else newL [] (A.take i) ++ [idn A i] := by
  rw [show A.take (i + 1) = A.take i ++ [idn A i] from take_snoc A [] i hi, newL_snoc]
  by_cases h : idn A i ∈ A.take i
  · rw [if_pos (.inr ((newL_mem [] _ _).2 ⟨h, by simp⟩)), if_pos h]
  · rw [if_neg (fun h' => h'.elim (fun h => by cases h) (fun h' => h ((newL_mem [] _ _).1 h').1)), if_neg h]
set_option maxHeartbeats 4000000 in
set_option maxRecDepth 20000 in
theorem rcount_any (a : Option Addr) (n c : Nat) (ms : List (List (List Id))) (w : World) (hn : n = ms.length) (hm : RdM w a ms) (hb : n + (allI ms).length ≤ 100000) :
    Calls Try.prog 25 #[.slice a n c] w fun e w' => ∃ v, e = .returned v ∧ OwnN w' v (cntL (allI ms)) ∧ (∀ g, v.ownBlock = some g → w.heap.size ≤ g) ∧ Kp (fun _ => False) w w' := by
  have call := fun w' (k : Kp (fun _ => False) w w') => rall_any a n c ms w' hn (hm.kp0 k) hb
  obtain ⟨A, hA⟩ : ∃ A, A = allI ms := ⟨_, rfl⟩
  rw [← hA] at call hb ⊢
  unfold cntL
  have CALL := Lib.hid call
  have HB := Lib.hid hb
  clear hm hn hb call hA
  go_enter Try.func25, Try.ntmps25
  go_wp2_with fail
  go_at_call 45
  refine (CALL.out _ (Kp.refl _ _)).mono ?_
  rintro e w1 ⟨v1, rfl, ho1, hg1, k1⟩
  obtain ⟨aA, cA, rfl, hrd, hcA⟩ := ho1.form
  obtain ⟨NA, hNA⟩ : ∃ NA, NA = A.length := ⟨_, rfl⟩
  rw [← hNA] at HB hcA ⊢
  have hbb : NA ≤ 100000 := by have := HB.out; omega
  have HA := Lib.hid (And.intro k1 (And.intro hNA trivial))
  have HR1 := Lib.hid hrd
  clear hNA ho1 hg1 k1 hrd
  go_wp2_with fail
  go_loopw [3, 5] (fun ov iv wr => ∃ i : Nat, i ≤ NA ∧ iv = .int .i64 i ∧ OwnN wr ov ((newL [] (A.take i)).map (fun x => (x, A.count x))) ∧ (∀ g, ov.ownBlock = some g → w1.heap.size ≤ g) ∧ Kp (fun _ => False) w1 wr) (fun _ iv _ => NA - (intOf iv).toNat)
  case atStart => exact ⟨0, by omega, rfl, by simpa [newL] using OwnN.nil w1, fun g hg => by simp [Value.ownBlock] at hg, Kp.refl _ _⟩
  case round =>
    obtain ⟨i, hi, rfl, ho, hg, hk⟩ := hrel
    have HP := Lib.hid (And.intro ho (And.intro hg hk))
    have HR := Lib.hid (HR1.out.kp0 hk)
    clear ho hg hk
    by_cases hlt : i < NA
    · have j1 : (i : Int) < NA := by omega
      have hii : i < A.length := by rw [← HA.out.2.1]; exact hlt
      obtain ⟨b, o, e1, hr⟩ := HR.out.at' i hii
      subst e1
      have hx16 := HR.out.ids.idn hii
      have hone := newL_one A i hii
      obtain ⟨x, hx⟩ : ∃ x, x = idn A i := ⟨_, rfl⟩
      rw [← hx] at hr hx16 hone
      have HL0 := fun w' (k : Kp (fun _ => False) wr w') => load_id (rangeAt_kp hr k (fun h => h)) hx16
      have hv := idV_B x
      rw [hv] at HL0
      have HX := Lib.hid (And.intro hx (And.intro hx16 (And.intro hone hii)))
      have INC := Lib.hid (And.intro (fun hin w' (k : Kp (fun _ => False) wr w') => in_yes (some ⟨b, o, none⟩) i cA (A.take i) (by rw [List.length_take]; omega) x hx16 hin w' ((HR.out.kp0 k).take i) (by omega)) (fun hin w' (k : Kp (fun _ => False) wr w') => in_no (some ⟨b, o, none⟩) i cA (A.take i) (by rw [List.length_take]; omega) x hx16 hin w' ((HR.out.kp0 k).take i) (by omega)))
      rw [hv] at INC
      clear hii hr hx16 hone hx
      obtain ⟨VA, hVA⟩ : ∃ VA, VA = idB x := ⟨_, rfl⟩
      rw [← hVA] at HL0 hv INC
      have HL := Lib.hid HL0
      have HV := Lib.hid (And.intro hv hVA)
      clear HL0 hv hVA
      by_cases hin : x ∈ A.take i
      · have IN := Lib.hid hin
        clear hin
        go_upto_region 6 with fail
        refine region_L (S := fun w' => Kp (fun _ => False) wr w') [] rfl ?_
        have hSd : ∀ (w' : World) (n' : Nat), Kp (fun _ => False) wr w' → Kp (fun _ => False) wr (w'.drewN n') := fun w' n' h => h.drewN n'
        have hS0 : Kp (fun _ => False) wr wr.drew := (Kp.refl _ wr).drew
        refine anyL_world (fun w' => Kp (fun _ => False) wr w') hS0 ?_
        clear hS0
        intro x0 kx0
        refine anyL_takeF (i := 0) (d := 16) (v := (.slice (some ⟨b, o, none⟩) NA cA)) rfl rfl (by kernel_rfl) (by kernel_rfl) (by kernel_rfl) (fun _ _ _ h => h) hSd (by kernel_rfl) (.inl (.inl ⟨rfl, fun w' hS => by first | rfl | go_simp⟩)) (fun _ => kx0) ?_
        try simp only [List.setIfInBounds_toArray, List.set_cons_succ, List.set_cons_zero]
        refine anyL_takeF (i := 1) (d := 17) (v := (.int .i64 (i : Nat))) rfl rfl (by kernel_rfl) (by kernel_rfl) (by kernel_rfl) (fun _ _ _ h => h) hSd (by kernel_rfl) (.inl (.inl ⟨rfl, fun w' hS => by first | rfl | go_simp⟩)) (fun _ => kx0) ?_
        try simp only [List.setIfInBounds_toArray, List.set_cons_succ, List.set_cons_zero]
        refine anyL_takeF (i := 2) (d := 18) (v := (.slice (some ⟨b, o, none⟩) i cA)) rfl rfl (by kernel_rfl) (by kernel_rfl) (by kernel_rfl) (fun _ _ _ h => h) hSd (by kernel_rfl) (.inl (.inl ⟨rfl, fun w' hS => by have hq : ¬ cA < i := (by omega); go_simp⟩)) (fun _ => kx0) ?_
        try simp only [List.setIfInBounds_toArray, List.set_cons_succ, List.set_cons_zero]
        refine anyL_takeF (i := 3) (d := 19) (v := (.slice (some ⟨b, o, none⟩) NA cA)) rfl rfl (by kernel_rfl) (by kernel_rfl) (by kernel_rfl) (fun _ _ _ h => h) hSd (by kernel_rfl) (.inl (.inl ⟨rfl, fun w' hS => by first | rfl | go_simp⟩)) (fun _ => kx0) ?_
        try simp only [List.setIfInBounds_toArray, List.set_cons_succ, List.set_cons_zero]
        refine anyL_takeF (i := 4) (d := 20) (v := (.int .i64 (i : Nat))) rfl rfl (by kernel_rfl) (by kernel_rfl) (by kernel_rfl) (fun _ _ _ h => h) hSd (by kernel_rfl) (.inl (.inl ⟨rfl, fun w' hS => by first | rfl | go_simp⟩)) (fun _ => kx0) ?_
        try simp only [List.setIfInBounds_toArray, List.set_cons_succ, List.set_cons_zero]
        refine anyL_takeF (i := 5) (d := 21) (v := (.pointer (some ⟨b, o + i * 16, none⟩))) rfl rfl (by kernel_rfl) (by kernel_rfl) (by kernel_rfl) (fun _ _ _ h => h) hSd (by kernel_rfl) (.inl (.inl ⟨rfl, fun w' hS => by first | rfl | go_simp⟩)) (fun _ => kx0) ?_
        try simp only [List.setIfInBounds_toArray, List.set_cons_succ, List.set_cons_zero]
        refine anyL_takeD (i := 6) (d := 22) (v := (.agg VA)) rfl rfl (by kernel_rfl) (by kernel_rfl) (by kernel_rfl) (fun _ _ _ h => h) hSd (by kernel_rfl) (.inl (.inl ⟨rfl, fun w' hS => exec_load rfl rfl (HL.out w' hS)⟩)) kx0 ?_
        try simp only [List.setIfInBounds_toArray, List.set_cons_succ, List.set_cons_zero]
        refine anyL_all (rs := [7]) (by kernel_rfl) (by simp) ?_
        intro n7 i hi
        simp only [List.mem_cons, List.not_mem_nil, or_false] at hi
        obtain rfl := hi
        refine wpOp_of rfl rfl ?_
        go_simp
        refine Calls.mono (INC.out.1 IN.out (x0.drewN n7) (kx0.drewN n7)) ?_
        rintro e x1 ⟨rfl, j⟩
        try dsimp only
        have kx1 : Kp (fun _ => False) wr x1 := (kx0.drewN n7).trans j
        refine ⟨fun _ => kx1, ?_⟩
        try simp only [List.setIfInBounds_toArray, List.set_cons_succ, List.set_cons_zero]
        refine anyL_done (by kernel_rfl) (fun nn => ?_) _
        have kw9 := kx1.drewN nn
        generalize x1.drewN nn = w9 at *
        clear hSd
        have K9 := Lib.hid kw9
        clear kw9
        go_wp2
        go_roundw
        case rel =>
          have h1 := HX.out.2.2.1
          rw [if_pos IN.out] at h1
          exact ⟨i + 1, by omega, by go_num, by rw [h1]; exact HP.out.1.kp0 K9.out, HP.out.2.1, HP.out.2.2.trans K9.out⟩
        case measure => simp [intOf]; omega
      · have IN := Lib.hid hin
        clear hin
        go_upto_region 6 with fail
        refine region_L (S := fun w' => Kp (fun _ => False) wr w') [] rfl ?_
        have hSd : ∀ (w' : World) (n' : Nat), Kp (fun _ => False) wr w' → Kp (fun _ => False) wr (w'.drewN n') := fun w' n' h => h.drewN n'
        have hS0 : Kp (fun _ => False) wr wr.drew := (Kp.refl _ wr).drew
        refine anyL_world (fun w' => Kp (fun _ => False) wr w') hS0 ?_
        clear hS0
        intro x0 kx0
        refine anyL_takeF (i := 0) (d := 16) (v := (.slice (some ⟨b, o, none⟩) NA cA)) rfl rfl (by kernel_rfl) (by kernel_rfl) (by kernel_rfl) (fun _ _ _ h => h) hSd (by kernel_rfl) (.inl (.inl ⟨rfl, fun w' hS => by first | rfl | go_simp⟩)) (fun _ => kx0) ?_
        try simp only [List.setIfInBounds_toArray, List.set_cons_succ, List.set_cons_zero]
        refine anyL_takeF (i := 1) (d := 17) (v := (.int .i64 (i : Nat))) rfl rfl (by kernel_rfl) (by kernel_rfl) (by kernel_rfl) (fun _ _ _ h => h) hSd (by kernel_rfl) (.inl (.inl ⟨rfl, fun w' hS => by first | rfl | go_simp⟩)) (fun _ => kx0) ?_
        try simp only [List.setIfInBounds_toArray, List.set_cons_succ, List.set_cons_zero]
        refine anyL_takeF (i := 2) (d := 18) (v := (.slice (some ⟨b, o, none⟩) i cA)) rfl rfl (by kernel_rfl) (by kernel_rfl) (by kernel_rfl) (fun _ _ _ h => h) hSd (by kernel_rfl) (.inl (.inl ⟨rfl, fun w' hS => by have hq : ¬ cA < i := (by omega); go_simp⟩)) (fun _ => kx0) ?_
        try simp only [List.setIfInBounds_toArray, List.set_cons_succ, List.set_cons_zero]
        refine anyL_takeF (i := 3) (d := 19) (v := (.slice (some ⟨b, o, none⟩) NA cA)) rfl rfl (by kernel_rfl) (by kernel_rfl) (by kernel_rfl) (fun _ _ _ h => h) hSd (by kernel_rfl) (.inl (.inl ⟨rfl, fun w' hS => by first | rfl | go_simp⟩)) (fun _ => kx0) ?_
        try simp only [List.setIfInBounds_toArray, List.set_cons_succ, List.set_cons_zero]
        refine anyL_takeF (i := 4) (d := 20) (v := (.int .i64 (i : Nat))) rfl rfl (by kernel_rfl) (by kernel_rfl) (by kernel_rfl) (fun _ _ _ h => h) hSd (by kernel_rfl) (.inl (.inl ⟨rfl, fun w' hS => by first | rfl | go_simp⟩)) (fun _ => kx0) ?_
        try simp only [List.setIfInBounds_toArray, List.set_cons_succ, List.set_cons_zero]
        refine anyL_takeF (i := 5) (d := 21) (v := (.pointer (some ⟨b, o + i * 16, none⟩))) rfl rfl (by kernel_rfl) (by kernel_rfl) (by kernel_rfl) (fun _ _ _ h => h) hSd (by kernel_rfl) (.inl (.inl ⟨rfl, fun w' hS => by first | rfl | go_simp⟩)) (fun _ => kx0) ?_
        try simp only [List.setIfInBounds_toArray, List.set_cons_succ, List.set_cons_zero]
        refine anyL_takeD (i := 6) (d := 22) (v := (.agg VA)) rfl rfl (by kernel_rfl) (by kernel_rfl) (by kernel_rfl) (fun _ _ _ h => h) hSd (by kernel_rfl) (.inl (.inl ⟨rfl, fun w' hS => exec_load rfl rfl (HL.out w' hS)⟩)) kx0 ?_
        try simp only [List.setIfInBounds_toArray, List.set_cons_succ, List.set_cons_zero]
        refine anyL_all (rs := [7]) (by kernel_rfl) (by simp) ?_
        intro n7 i hi
        simp only [List.mem_cons, List.not_mem_nil, or_false] at hi
        obtain rfl := hi
        refine wpOp_of rfl rfl ?_
        go_simp
        refine Calls.mono (INC.out.2 IN.out (x0.drewN n7) (kx0.drewN n7)) ?_
        rintro e x1 ⟨rfl, j⟩
        try dsimp only
        have kx1 : Kp (fun _ => False) wr x1 := (kx0.drewN n7).trans j
        refine ⟨fun _ => kx1, ?_⟩
        try simp only [List.setIfInBounds_toArray, List.set_cons_succ, List.set_cons_zero]
        refine anyL_done (by kernel_rfl) (fun nn => ?_) _
        have kw9 := kx1.drewN nn
        generalize x1.drewN nn = w9 at *
        clear hSd
        have K9 := Lib.hid kw9
        have HL9 := Lib.hid (fun w' (k : Kp (fun _ => False) w9 w') => HL.out w' (kw9.trans k))
        have HR9 := Lib.hid (HR.out.kp0 kw9)
        clear kw9 HL HR
        go_wp2_with fail
        go_loopw [6, 7] (fun nv kv wr => ∃ k : Nat, k ≤ NA ∧ kv = .int .i64 k ∧ nv = .int .i64 ((A.take k).count x : Nat) ∧ Kp (fun _ => False) w9 wr) (fun _ kv _ => NA - (intOf kv).toNat)
        case atStart => exact ⟨0, by omega, rfl, by simp, Kp.refl _ _⟩
        case round =>
          obtain ⟨k, hk, rfl, rfl, hkk⟩ := hrel
          have KI := Lib.hid (And.intro trivial hkk)
          have hcl : (A.take k).count x ≤ k := Nat.le_trans List.count_le_length (List.length_take_le _ _)
          clear hkk
          by_cases hkl : k < NA
          · have j2 : (k : Int) < NA := by omega
            have hki : k < A.length := by rw [← HA.out.2.1]; exact hkl
            obtain ⟨b', o', e2, hr2⟩ := (HR9.out.kp0 KI.out.2).at' k hki
            cases e2
            have hy16 := HR9.out.ids.idn hki
            have htk : A.take (k + 1) = A.take k ++ [idn A k] := take_snoc A [] k hki
            obtain ⟨y, hy⟩ : ∃ y, y = idn A k := ⟨_, rfl⟩
            rw [← hy] at hr2 hy16 htk
            have hcn : (A.take (k + 1)).count x = (A.take k).count x + (if y == x then 1 else 0) := by rw [htk, List.count_append, List.count_singleton]
            have HL02 := fun w' (k : Kp (fun _ => False) wr w') => load_id (rangeAt_kp hr2 k (fun h => h)) hy16
            have hvy := idV_B y
            have hq := fun w' => run_eq_id w' hy16 HX.out.2.1
            rw [hvy] at HL02
            rw [hvy, HV.out.1] at hq
            obtain ⟨VB, hVB⟩ : ∃ VB, VB = idB y := ⟨_, rfl⟩
            rw [← hVB] at HL02 hq
            have HL2 := Lib.hid HL02
            have HL := HL9
            have HC := Lib.hid hcn
            obtain ⟨C, hC⟩ : ∃ C, C = (A.take k).count x := ⟨_, rfl⟩
            rw [← hC] at HC hcl ⊢
            clear HL02 hcn hvy hVB htk hy hy16 hr2 hki hC
            go_upto_region 11 with fail
            cases hyx : (y == x)
            · rw [hyx] at hq HC
              have HQ := Lib.hid hq
              clear hq hyx
              refine region_L (S := fun w' => Kp (fun _ => False) wr w') [] rfl ?_
              have hSd : ∀ (w' : World) (n' : Nat), Kp (fun _ => False) wr w' → Kp (fun _ => False) wr (w'.drewN n') := fun w' n' h => h.drewN n'
              have hS0 : Kp (fun _ => False) wr wr.drew := (Kp.refl _ wr).drew
              refine anyL_world (fun w' => Kp (fun _ => False) wr w') hS0 ?_
              clear hS0
              intro x0 kx0
              refine anyL_takeF (i := 0) (d := 30) (v := (.slice (some ⟨b, o, none⟩) NA cA)) rfl rfl (by kernel_rfl) (by kernel_rfl) (by kernel_rfl) (fun _ _ _ h => h) hSd (by kernel_rfl) (.inl (.inl ⟨rfl, fun w' hS => by first | rfl | go_simp⟩)) (fun _ => kx0) ?_
              try simp only [List.setIfInBounds_toArray, List.set_cons_succ, List.set_cons_zero]
              refine anyL_takeF (i := 1) (d := 31) (v := (.int .i64 (k : Nat))) rfl rfl (by kernel_rfl) (by kernel_rfl) (by kernel_rfl) (fun _ _ _ h => h) hSd (by kernel_rfl) (.inl (.inl ⟨rfl, fun w' hS => by first | rfl | go_simp⟩)) (fun _ => kx0) ?_
              try simp only [List.setIfInBounds_toArray, List.set_cons_succ, List.set_cons_zero]
              refine anyL_takeF (i := 2) (d := 32) (v := (.pointer (some ⟨b, o + k * 16, none⟩))) rfl rfl (by kernel_rfl) (by kernel_rfl) (by kernel_rfl) (fun _ _ _ h => h) hSd (by kernel_rfl) (.inl (.inl ⟨rfl, fun w' hS => by first | rfl | go_simp⟩)) (fun _ => kx0) ?_
              try simp only [List.setIfInBounds_toArray, List.set_cons_succ, List.set_cons_zero]
              refine anyL_takeD (i := 3) (d := 33) (v := (.agg VB)) rfl rfl (by kernel_rfl) (by kernel_rfl) (by kernel_rfl) (fun _ _ _ h => h) hSd (by kernel_rfl) (.inl (.inl ⟨rfl, fun w' hS => exec_load rfl rfl (HL2.out w' hS)⟩)) kx0 ?_
              try simp only [List.setIfInBounds_toArray, List.set_cons_succ, List.set_cons_zero]
              refine anyL_takeF (i := 4) (d := 34) (v := (.slice (some ⟨b, o, none⟩) NA cA)) rfl rfl (by kernel_rfl) (by kernel_rfl) (by kernel_rfl) (fun _ _ _ h => h) hSd (by kernel_rfl) (.inl (.inl ⟨rfl, fun w' hS => by first | rfl | go_simp⟩)) (fun _ => kx0) ?_
              try simp only [List.setIfInBounds_toArray, List.set_cons_succ, List.set_cons_zero]
              refine anyL_takeF (i := 5) (d := 35) (v := (.int .i64 (i : Nat))) rfl rfl (by kernel_rfl) (by kernel_rfl) (by kernel_rfl) (fun _ _ _ h => h) hSd (by kernel_rfl) (.inl (.inl ⟨rfl, fun w' hS => by first | rfl | go_simp⟩)) (fun _ => kx0) ?_
              try simp only [List.setIfInBounds_toArray, List.set_cons_succ, List.set_cons_zero]
              refine anyL_takeF (i := 6) (d := 36) (v := (.pointer (some ⟨b, o + i * 16, none⟩))) rfl rfl (by kernel_rfl) (by kernel_rfl) (by kernel_rfl) (fun _ _ _ h => h) hSd (by kernel_rfl) (.inl (.inl ⟨rfl, fun w' hS => by first | rfl | go_simp⟩)) (fun _ => kx0) ?_
              try simp only [List.setIfInBounds_toArray, List.set_cons_succ, List.set_cons_zero]
              refine anyL_takeD (i := 7) (d := 37) (v := (.agg VA)) rfl rfl (by kernel_rfl) (by kernel_rfl) (by kernel_rfl) (fun _ _ _ h => h) hSd (by kernel_rfl) (.inl (.inl ⟨rfl, fun w' hS => exec_load rfl rfl (HL.out w' (KI.out.2.trans hS))⟩)) kx0 ?_
              try simp only [List.setIfInBounds_toArray, List.set_cons_succ, List.set_cons_zero]
              refine anyL_takeF (i := 8) (d := 38) (v := (.bool false)) rfl rfl (by kernel_rfl) (by kernel_rfl) (by kernel_rfl) (fun _ _ _ h => h) hSd (by kernel_rfl) (.inl (.inl ⟨rfl, fun w' hS => exec_eql rfl rfl rfl (by kernel_rfl) (HQ.out w')⟩)) (fun _ => kx0) ?_
              try simp only [List.setIfInBounds_toArray, List.set_cons_succ, List.set_cons_zero]
              refine anyL_done (by kernel_rfl) (fun nn => ?_) _
              have kw10 := kx0.drewN nn
              generalize x0.drewN nn = w10 at *
              clear hSd
              have K10 := Lib.hid kw10
              clear kw10
              go_wp2
              go_roundw
              case rel => exact ⟨k + 1, by omega, by go_num, by rw [HC.out]; rfl, KI.out.2.trans K10.out⟩
              case measure => simp [intOf]; omega
            · rw [hyx] at hq HC
              have HQ := Lib.hid hq
              clear hq hyx
              refine region_L (S := fun w' => Kp (fun _ => False) wr w') [] rfl ?_
              have hSd : ∀ (w' : World) (n' : Nat), Kp (fun _ => False) wr w' → Kp (fun _ => False) wr (w'.drewN n') := fun w' n' h => h.drewN n'
              have hS0 : Kp (fun _ => False) wr wr.drew := (Kp.refl _ wr).drew
              refine anyL_world (fun w' => Kp (fun _ => False) wr w') hS0 ?_
              clear hS0
              intro x0 kx0
              refine anyL_takeF (i := 0) (d := 30) (v := (.slice (some ⟨b, o, none⟩) NA cA)) rfl rfl (by kernel_rfl) (by kernel_rfl) (by kernel_rfl) (fun _ _ _ h => h) hSd (by kernel_rfl) (.inl (.inl ⟨rfl, fun w' hS => by first | rfl | go_simp⟩)) (fun _ => kx0) ?_
              try simp only [List.setIfInBounds_toArray, List.set_cons_succ, List.set_cons_zero]
              refine anyL_takeF (i := 1) (d := 31) (v := (.int .i64 (k : Nat))) rfl rfl (by kernel_rfl) (by kernel_rfl) (by kernel_rfl) (fun _ _ _ h => h) hSd (by kernel_rfl) (.inl (.inl ⟨rfl, fun w' hS => by first | rfl | go_simp⟩)) (fun _ => kx0) ?_
              try simp only [List.setIfInBounds_toArray, List.set_cons_succ, List.set_cons_zero]
              refine anyL_takeF (i := 2) (d := 32) (v := (.pointer (some ⟨b, o + k * 16, none⟩))) rfl rfl (by kernel_rfl) (by kernel_rfl) (by kernel_rfl) (fun _ _ _ h => h) hSd (by kernel_rfl) (.inl (.inl ⟨rfl, fun w' hS => by first | rfl | go_simp⟩)) (fun _ => kx0) ?_
              try simp only [List.setIfInBounds_toArray, List.set_cons_succ, List.set_cons_zero]
              refine anyL_takeD (i := 3) (d := 33) (v := (.agg VB)) rfl rfl (by kernel_rfl) (by kernel_rfl) (by kernel_rfl) (fun _ _ _ h => h) hSd (by kernel_rfl) (.inl (.inl ⟨rfl, fun w' hS => exec_load rfl rfl (HL2.out w' hS)⟩)) kx0 ?_
              try simp only [List.setIfInBounds_toArray, List.set_cons_succ, List.set_cons_zero]
              refine anyL_takeF (i := 4) (d := 34) (v := (.slice (some ⟨b, o, none⟩) NA cA)) rfl rfl (by kernel_rfl) (by kernel_rfl) (by kernel_rfl) (fun _ _ _ h => h) hSd (by kernel_rfl) (.inl (.inl ⟨rfl, fun w' hS => by first | rfl | go_simp⟩)) (fun _ => kx0) ?_
              try simp only [List.setIfInBounds_toArray, List.set_cons_succ, List.set_cons_zero]
              refine anyL_takeF (i := 5) (d := 35) (v := (.int .i64 (i : Nat))) rfl rfl (by kernel_rfl) (by kernel_rfl) (by kernel_rfl) (fun _ _ _ h => h) hSd (by kernel_rfl) (.inl (.inl ⟨rfl, fun w' hS => by first | rfl | go_simp⟩)) (fun _ => kx0) ?_
              try simp only [List.setIfInBounds_toArray, List.set_cons_succ, List.set_cons_zero]
              refine anyL_takeF (i := 6) (d := 36) (v := (.pointer (some ⟨b, o + i * 16, none⟩))) rfl rfl (by kernel_rfl) (by kernel_rfl) (by kernel_rfl) (fun _ _ _ h => h) hSd (by kernel_rfl) (.inl (.inl ⟨rfl, fun w' hS => by first | rfl | go_simp⟩)) (fun _ => kx0) ?_
              try simp only [List.setIfInBounds_toArray, List.set_cons_succ, List.set_cons_zero]
              refine anyL_takeD (i := 7) (d := 37) (v := (.agg VA)) rfl rfl (by kernel_rfl) (by kernel_rfl) (by kernel_rfl) (fun _ _ _ h => h) hSd (by kernel_rfl) (.inl (.inl ⟨rfl, fun w' hS => exec_load rfl rfl (HL.out w' (KI.out.2.trans hS))⟩)) kx0 ?_
              try simp only [List.setIfInBounds_toArray, List.set_cons_succ, List.set_cons_zero]
              refine anyL_takeF (i := 8) (d := 38) (v := (.bool true)) rfl rfl (by kernel_rfl) (by kernel_rfl) (by kernel_rfl) (fun _ _ _ h => h) hSd (by kernel_rfl) (.inl (.inl ⟨rfl, fun w' hS => exec_eql rfl rfl rfl (by kernel_rfl) (HQ.out w')⟩)) (fun _ => kx0) ?_
              try simp only [List.setIfInBounds_toArray, List.set_cons_succ, List.set_cons_zero]
              refine anyL_done (by kernel_rfl) (fun nn => ?_) _
              have kw10 := kx0.drewN nn
              generalize x0.drewN nn = w10 at *
              clear hSd
              have K10 := Lib.hid kw10
              clear kw10
              go_wp2
              go_roundw
              case rel => exact ⟨k + 1, by omega, by go_num, by rw [HC.out, if_pos rfl]; go_num, KI.out.2.trans K10.out⟩
              case measure => simp [intOf]; omega
          · obtain rfl : k = NA := by omega
            have htk : A.take k = A := by rw [HA.out.2.1, List.take_length]
            rw [htk] at hcl ⊢
            clear htk hkl
            obtain ⟨C, hC⟩ : ∃ C, C = A.count x := ⟨_, rfl⟩
            rw [← hC] at hcl ⊢
            have hx16 := HX.out.2.1
            have HBD := Lib.hid (fun (w' : World) => build_nmd hx16 C w')
            have HBS := Lib.hid (fun (w' : World) => bs_nmd (x := (x, C)) hx16 w')
            obtain ⟨NB, hNB⟩ : ∃ NB, NB = (nmW (x, C)).toArray := ⟨_, rfl⟩
            have hnv : nmV (x, C) = .agg NB := by rw [hNB]; rfl
            rw [hnv] at HBD HBS
            rw [← hNB] at HBS
            rw [HV.out.1] at HBD
            have HL1 := Lib.hid (HL9.out wr KI.out.2)
            have ka := (Kp.refl (fun _ => False) wr).alloc (.cells NB 43)
            have hat : At (wr.alloc (.cells NB 43)) wr.heap.size (nmW (x, C)) := by rw [hNB]; exact At.new wr (nmW (x, C)) _
            have kQ := K9.out.trans KI.out.2
            have hln : ((newL [] (A.take i)).map (fun x => (x, A.count x))).length ≤ 1000000 := by
              rw [List.length_map]
              have := newL_len [] (A.take i)
              rw [List.length_take] at this
              omega
            obtain ⟨v10, w10, hr10, ho10, k10, hb10⟩ := ((HP.out.1.kp0 kQ).kp0 ka).app hln hx16 (x := (x, C)) hat
            have HR10 := Lib.hid hr10
            have HZ := Lib.hid (And.intro ho10 (And.intro k10 (And.intro hb10 (And.intro (kQ.trans ka) hC))))
            clear hr10 ho10 k10 hb10 kQ ka hat hln hC hnv hNB hx16
            go_wp2_with (first | (refine wpList_load_run HL1.out rfl rfl rfl ?_) | (refine wpList_build_run (ps := #[(0, .agg VA), (1, .int .i64 (C : Nat))]) rfl rfl rfl (HBD.out _) ?_) | (refine wpList_buildSlice_run (ps := #[(0, .agg NB)]) rfl rfl rfl (HBS.out _) ?_) | (at_builtin; refine wpList_append_run _ HR10.out rfl rfl rfl rfl ?_))
            go_roundw
            case rel =>
              have h1 := HX.out.2.2.1
              rw [if_neg IN.out] at h1
              have hws := HP.out.2.2.size
              have hsz := HZ.out.2.2.2.1.size
              rw [World.size_alloc] at hsz
              refine ⟨i + 1, by omega, by go_num, ?_, fun g hg => ?_, ?_⟩
              · rw [h1, List.map_append, List.map_singleton, ← HZ.out.2.2.2.2]
                exact HZ.out.1
              · rcases HZ.out.2.2.1 with e | e
                · exact HP.out.2.1 g (e ▸ hg)
                · rw [hg, World.size_alloc] at e
                  have := Option.some.inj e
                  have := (K9.out.trans KI.out.2).size
                  omega
              · exact (HP.out.2.2.trans HZ.out.2.2.2.1).then HZ.out.2.1 (fun j hj e => by have := HP.out.2.1 j e; omega)
            case measure => simp [intOf]; omega
    · obtain rfl : i = NA := by omega
      clear hlt
      go_wp2_with fail
      go_ret
      have h1 := HP.out.1
      rw [HA.out.2.1, List.take_length] at h1
      have hs := HA.out.1.size
      exact ⟨_, rfl, h1, fun g hg => by have := HP.out.2.1 g hg; omega, HA.out.1.trans HP.out.2.2⟩
end Go.Proofs.Ytaibdkdmilhloaa
