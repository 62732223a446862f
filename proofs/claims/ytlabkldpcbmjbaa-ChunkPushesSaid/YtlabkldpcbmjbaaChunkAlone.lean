/- The walk of ChunkAlone: it returns true, whatever comes in. No condition. (Written by wip/chkalone.py.) -/
import Derived.Test.YtlabkldpcbmjbaaChkL
import Derived.Test.YtlabkldpcbmjbaaPick
import Derived.Test.YtlabkldpcbmjbaaOpen
namespace Go.Proofs.Ytlabkldpcbmjbaa
open Go.RowKit
set_option linter.unusedVariables false
set_option linter.unusedSimpArgs false
theorem RdB.dropA {w : World} {a : Option Addr} {l : List Int} (h : RdB w a l) {t cap : Nat} (hl : l.length ≤ cap) : RdB w (if cap = t then a else a.map (fun x => x.add t)) (l.drop t) := by
  by_cases hct : cap = t
  · rw [List.drop_of_length_le (by omega)]; exact RdB.nil _ _
  · rw [if_neg hct]
    by_cases hl0 : l = []
    · rw [hl0, List.drop_nil]; exact RdB.nil _ _
    · obtain ⟨b1, o1, e, _⟩ := h.cell 0 (by cases l with | nil => exact absurd rfl hl0 | cons => simp)
      rw [e] at h ⊢
      have := h.slice t l.length
      rw [List.take_of_length_le (by simp)] at this
      rw [Option.map_some, Addr.add_mid]; exact this
theorem Rd.dropA {w : World} {a : Option Addr} {vs : List Value} (h : Rd w a vs) {t cap : Nat} (hl : vs.length ≤ cap) : Rd w (if cap = t then a else a.map (fun x => x.add t)) (vs.drop t) := fun i hi => by
  rw [List.length_drop] at hi
  obtain ⟨b1, o1, e, hc⟩ := h (t + i) (by omega)
  rw [if_neg (by omega), e, Option.map_some, Addr.add_mid]
  refine ⟨b1, o1 + t, rfl, ?_⟩
  rw [Nat.add_assoc, hc, List.getD_eq_getElem?_getD, List.getD_eq_getElem?_getD, List.getElem?_drop]
set_option maxHeartbeats 4000000 in
set_option maxRecDepth 20000 in
theorem alone_main (a : Option Addr) (cap : Nat) (l : List Int) (n1 n2 : Int) (w : World) (h : RdB w a l) (hcap : l.length ≤ cap) (hcm : cap ≤ maxLen) (hl : l.length ≤ 8000)
    (hb1 : -9223372036854775808 ≤ n1 ∧ n1 ≤ 9223372036854775807) (hb2 : -9223372036854775808 ≤ n2 ∧ n2 ≤ 9223372036854775807) :
    Calls Try.prog 7 #[.slice a l.length cap, .int .i64 n1, .int .i64 n2] w fun e w' => e = .returned (.bool true) ∧ Below w.heap.size w w' := by
  have AW := Lib.hid (fun w' => awake_any w')
  have hcl := chunks_len l
  have CC := Lib.hid (fun w' (k : Kp (fun _ => False) w w') => cut_any a cap l w' (h.kp0 k (fun _ _ h => h)) (by omega) hcap hcm)
  obtain ⟨N, hN⟩ : ∃ N, N = (chunks l).length := ⟨_, rfl⟩
  obtain ⟨n, hn⟩ : ∃ n, n = l.length := ⟨_, rfl⟩
  have CP1 := Lib.hid (fun w' => pick_any n1 ((N : Int) + 1) w' hb1 (by omega))
  obtain ⟨q, hq⟩ : ∃ q : Nat, n1 % ((N : Int) + 1) = q := ⟨(n1 % ((N : Int) + 1)).toNat, by have := Int.emod_nonneg n1 (show (N : Int) + 1 ≠ 0 by omega); omega⟩
  have hq2 : q ≤ N := by have := Int.emod_lt_of_pos n1 (show 0 < (N : Int) + 1 by omega); omega
  rw [hq] at CP1
  have CP2 := Lib.hid (fun w' => pick_any n2 ((n : Int) + 1) w' hb2 (by omega))
  obtain ⟨p, hp⟩ : ∃ p : Nat, n2 % ((n : Int) + 1) = p := ⟨(n2 % ((n : Int) + 1)).toNat, by have := Int.emod_nonneg n2 (show (n : Int) + 1 ≠ 0 by omega); omega⟩
  have hp2 : p ≤ n := by have := Int.emod_lt_of_pos n2 (show 0 < (n : Int) + 1 by omega); omega
  rw [hp] at CP2
  have HR := Lib.hid (And.intro h (And.intro hcap hcm))
  rw [← hN] at CC hcl
  rw [← hn] at CC hl hcap hcl ⊢
  have HN := Lib.hid (And.intro hN hn)
  clear hN hn h hq hp hb1 hb2
  have i1 : ¬ (8000 : Int) < (n : Int) := by omega
  go_enter Try.func7, Try.ntmps7
  go_upto_region 7 with (first | (go_at_call 20; (with_reducible refine (AW.out _).mono ?_); rintro e w1 ⟨rfl, k1⟩; have K1 := Lib.hid k1; clear k1) | (go_at_call 13; (with_reducible refine (CC.out _ K1.out).mono ?_); rintro e w2 ⟨v2, rfl, ho2, hg2, k2⟩; obtain ⟨A2, c2, rfl, hc2, hm2⟩ := ho2.form; have H2 := Lib.hid (And.intro ho2 (And.intro hg2 (K1.out.trans k2))); clear ho2 hg2 k2) | (go_at_call 28; (with_reducible refine (CP1.out _).mono ?_); rintro e w' ⟨rfl, rfl⟩))
  go_wp2_with fail
  go_loopw [10, 9] (fun i t wr => ∃ k : Nat, k ≤ q ∧ i = .int .i64 k ∧ t = .int .i64 (upto l k : Nat) ∧ w2 = wr) (fun i _ _ => q - (intOf i).toNat)
  case atStart => exact ⟨0, by omega, rfl, by simp [upto], rfl⟩
  case round =>
    obtain ⟨k, hk, rfl, rfl, rfl⟩ := hrel
    have hul := upto_le l
    by_cases hlt : k < q
    · have j1 : (k : Int) < q := by omega
      have j2 : (k : Int) < N := by omega
      have hkl : k < (chunks l).length := by rw [← HN.out.1]; omega
      have hsu := upto_succ l k hkl
      have hu1 := hul (k + 1)
      have hu0 := hul k
      have how := H2.out.1
      obtain ⟨b, off, rfl, hc⟩ := how.rd k (show k < (ints (lens (chunks l))).length by simp [ints, lens_len]; exact hkl)
      have e1 : (ints (lens (chunks l))).getD k undef = .int .i64 ((lens (chunks l)).getD k 0 : Nat) := by
        simp [ints, List.getD_eq_getElem?_getD, show k < (lens (chunks l)).length by rw [lens_len]; exact hkl]
      rw [e1] at hc
      have HS := Lib.hid hsu
      have hbn : upto l k + (lens (chunks l)).getD k 0 ≤ 8000 := by have := HN.out.2; omega
      generalize (lens (chunks l)).getD k 0 = x at *
      clear hsu hu1 hu0 how e1
      generalize hux : upto l k = u at *
      have HU := Lib.hid hux
      clear hux
      go_wp2_with fail
      go_roundw
      case rel => exact ⟨k + 1, by omega, by go_num, by rw [HS.out]; go_num, by first | rfl | trivial⟩
      case measure => simp [intOf]; omega
    · obtain rfl : k = q := by omega
      have hu0 := hul k
      rw [← HN.out.2] at hu0
      have hdr := chunks_drop k l
      have hld : (lens (chunks (l.drop (upto l k)))).length = N - k := by rw [lens_len, ← hdr, List.length_drop, ← HN.out.1]
      have hrd := fun w' (kk : Kp (fun _ => False) w2 w') => (HR.out.1.kp0 (H2.out.2.2.trans kk) (fun _ _ h => h)).dropA (t := upto l k) HR.out.2.1
      have hrs := fun w' (kk : Kp (fun _ => False) w2 w') => ((H2.out.1.kp kk (fun _ _ h => h)).rd).dropA (t := k) (cap := c2) (by simp [ints, lens_len]; rw [← HN.out.1]; exact hc2)
      have e3 : (ints (lens (chunks l))).drop k = ints (lens (chunks (l.drop (upto l k)))) := by rw [← hdr, lens_drop, ints, ints, List.map_drop]
      simp only [e3] at hrs
      generalize upto l k = u at *
      obtain ⟨A', hA'⟩ : ∃ A', A' = (if cap = u then a else a.map (fun x => x.add u)) := ⟨_, rfl⟩
      obtain ⟨B', hB'⟩ : ∃ B', B' = (if c2 = k then A2 else A2.map (fun x => x.add k)) := ⟨_, rfl⟩
      simp only [← hA'] at hrd
      simp only [← hB'] at hrs
      have HA := Lib.hid hA'
      have HB := Lib.hid hB'
      clear hA' hB'
      have hdl : (l.drop u).length = n - u := by rw [List.length_drop, ← HN.out.2]
      have CC2 := Lib.hid (fun w' (kk : Kp (fun _ => False) w2 w') => cut_any A' (cap - u) (l.drop u) w' (hrd w' kk) (by omega) (by omega) (Nat.le_trans (Nat.sub_le _ _) hcm))
      have hcd : (chunks (l.drop u)).length = N - k := by rw [← lens_len]; exact hld
      rw [hdl, hcd] at CC2
      have CSI := Lib.hid (fun w' A c (h1 : Rd w' A (ints (lens (chunks (l.drop u))))) (kk : Kp (fun _ => False) w2 w') => sameints_eq A B' c (c2 - k) (lens (chunks (l.drop u))) w' h1 (hrs w' kk) (by rw [hld]; omega))
      rw [hld] at CSI
      have j1 : ¬ (n : Int) < (u : Int) := by omega
      have j2 : (u : Int) ≤ n := by omega
      have j3 : (k : Int) ≤ N := by omega
      clear hdr hld hrd hrs e3 hdl hcd hul
      go_wp2_with fail
      refine region_N (S := fun _ => True) [] rfl ?_
      have hSd : ∀ (w' : World) (n' : Nat), True → True := fun _ _ h => h
      refine anyL_takeF (i := 0) (d := 36) (v := .int .i64 (u : Nat)) rfl rfl (by kernel_rfl) (by kernel_rfl) (by kernel_rfl) (fun _ _ _ h => h) hSd (by kernel_rfl) (.inl (.inl ⟨rfl, fun w' hS => rfl⟩)) (fun _ => trivial) ?_
      try simp only [List.setIfInBounds_toArray, List.set_cons_succ, List.set_cons_zero]
      refine anyL_takeF (i := 1) (d := 37) (v := .slice a n cap) rfl rfl (by kernel_rfl) (by kernel_rfl) (by kernel_rfl) (fun _ _ _ h => h) hSd (by kernel_rfl) (.inl (.inl ⟨rfl, fun w' hS => rfl⟩)) (fun _ => trivial) ?_
      try simp only [List.setIfInBounds_toArray, List.set_cons_succ, List.set_cons_zero]
      refine anyL_takeF (i := 2) (d := 38) (v := .int .i64 (n : Nat)) rfl rfl (by kernel_rfl) (by kernel_rfl) (by kernel_rfl) (fun _ _ _ h => h) hSd (by kernel_rfl) (.inl (.inl ⟨rfl, fun w' hS => by go_simp⟩)) (fun _ => trivial) ?_
      try simp only [List.setIfInBounds_toArray, List.set_cons_succ, List.set_cons_zero]
      refine anyL_takeF (i := 3) (d := 39) (v := .bool false) rfl rfl (by kernel_rfl) (by kernel_rfl) (by kernel_rfl) (fun _ _ _ h => h) hSd (by kernel_rfl) (.inl (.inl ⟨rfl, fun w' hS => by go_simp⟩)) (fun _ => trivial) ?_
      try simp only [List.setIfInBounds_toArray, List.set_cons_succ, List.set_cons_zero]
      refine anyL_takeF (i := 4) (d := 40) (v := .bool false) rfl rfl (by kernel_rfl) (by kernel_rfl) (by kernel_rfl) (fun _ _ _ h => h) hSd (by kernel_rfl) (.inl (.inl ⟨rfl, fun w' hS => rfl⟩)) (fun _ => trivial) ?_
      try simp only [List.setIfInBounds_toArray, List.set_cons_succ, List.set_cons_zero]
      refine anyL_takeF (i := 5) (d := 41) (v := .slice a n cap) rfl rfl (by kernel_rfl) (by kernel_rfl) (by kernel_rfl) (fun _ _ _ h => h) hSd (by kernel_rfl) (.inl (.inl ⟨rfl, fun w' hS => rfl⟩)) (fun _ => trivial) ?_
      try simp only [List.setIfInBounds_toArray, List.set_cons_succ, List.set_cons_zero]
      refine anyL_takeF (i := 6) (d := 42) (v := .int .i64 (u : Nat)) rfl rfl (by kernel_rfl) (by kernel_rfl) (by kernel_rfl) (fun _ _ _ h => h) hSd (by kernel_rfl) (.inl (.inl ⟨rfl, fun w' hS => rfl⟩)) (fun _ => trivial) ?_
      try simp only [List.setIfInBounds_toArray, List.set_cons_succ, List.set_cons_zero]
      refine anyL_takeF (i := 7) (d := 43) (v := .slice A' (n - u) (cap - u)) rfl rfl (by kernel_rfl) (by kernel_rfl) (by kernel_rfl) (fun _ _ _ h => h) hSd (by kernel_rfl) (.inl (.inl ⟨rfl, fun w' hS => by rw [HA.out]; go_simp⟩)) (fun _ => trivial) ?_
      try simp only [List.setIfInBounds_toArray, List.set_cons_succ, List.set_cons_zero]
      refine anyL_takeF (i := 9) (d := 45) (v := .slice A2 N c2) rfl rfl (by kernel_rfl) (by kernel_rfl) (by kernel_rfl) (fun _ _ _ h => h) hSd (by kernel_rfl) (.inl (.inl ⟨rfl, fun w' hS => rfl⟩)) (fun _ => trivial) ?_
      try simp only [List.setIfInBounds_toArray, List.set_cons_succ, List.set_cons_zero]
      refine anyL_takeF (i := 10) (d := 46) (v := .int .i64 (k : Nat)) rfl rfl (by kernel_rfl) (by kernel_rfl) (by kernel_rfl) (fun _ _ _ h => h) hSd (by kernel_rfl) (.inl (.inl ⟨rfl, fun w' hS => rfl⟩)) (fun _ => trivial) ?_
      try simp only [List.setIfInBounds_toArray, List.set_cons_succ, List.set_cons_zero]
      refine anyL_takeF (i := 11) (d := 47) (v := .slice B' (N - k) (c2 - k)) rfl rfl (by kernel_rfl) (by kernel_rfl) (by kernel_rfl) (fun _ _ _ h => h) hSd (by kernel_rfl) (.inl (.inl ⟨rfl, fun w' hS => by rw [HB.out]; go_simp⟩)) (fun _ => trivial) ?_
      try simp only [List.setIfInBounds_toArray, List.set_cons_succ, List.set_cons_zero]
      refine anyL_all (rs := [8]) (by kernel_rfl) (by simp) ?_
      intro n8 i hi
      simp only [List.mem_cons, List.not_mem_nil, or_false] at hi
      obtain rfl := hi
      refine wpOp_of rfl rfl ?_
      go_simp
      refine (CC2.out _ ((Kp.refl _ w2).drewN _)).mono ?_
      rintro e w6 ⟨v6, rfl, ho6, _, k6⟩
      obtain ⟨A6, c6, rfl, _, _⟩ := ho6.form
      have k26 : Kp (fun _ => False) w2 w6 := ((Kp.refl _ w2).drewN _).trans k6
      dsimp only
      try simp only [List.setIfInBounds_toArray, List.set_cons_succ, List.set_cons_zero]
      refine anyL_all (rs := [12]) (by kernel_rfl) (by simp) ?_
      intro n12 i hi
      simp only [List.mem_cons, List.not_mem_nil, or_false] at hi
      obtain rfl := hi
      refine wpOp_of rfl rfl ?_
      go_simp
      refine (CSI.out _ A6 c6 ?_ ?_).mono ?_
      · exact (ho6.kp ((Kp.refl (fun _ => False) w6).drewN n12) (fun _ _ h => h)).rd
      · exact k26.drewN _
      rintro e w7 ⟨rfl, q7, rfl⟩
      dsimp only
      try simp only [List.setIfInBounds_toArray, List.set_cons_succ, List.set_cons_zero]
      refine anyL_takeF (i := 13) (d := 49) (v := .bool false) rfl rfl (by kernel_rfl) (by kernel_rfl) (by kernel_rfl) (fun _ _ _ h => h) hSd (by kernel_rfl) (.inl (.inl ⟨rfl, fun w' hS => by go_simp⟩)) (fun _ => trivial) ?_
      try simp only [List.setIfInBounds_toArray, List.set_cons_succ, List.set_cons_zero]
      refine anyL_takeF (i := 14) (d := 50) (v := .bool false) rfl rfl (by kernel_rfl) (by kernel_rfl) (by kernel_rfl) (fun _ _ _ h => h) hSd (by kernel_rfl) (.inl (.inl ⟨rfl, fun w' hS => by go_simp⟩)) (fun _ => trivial) ?_
      try simp only [List.setIfInBounds_toArray, List.set_cons_succ, List.set_cons_zero]
      refine anyL_done (by kernel_rfl) (fun nn => ?_) _
      have K8 := Lib.hid (show Kp (fun _ => False) w2 (((w6.drewN n12).drewN q7).drewN nn) from ((k26.drewN _).drewN _).drewN _)
      dsimp only [onlyN]
      generalize ((w6.drewN n12).drewN q7).drewN nn = w8 at *
      have CC3 := Lib.hid (fun w' (kk : Kp (fun _ => False) w2 w') => cut_any a cap (l.take p) w' ((HR.out.1.kp0 (H2.out.2.2.trans kk) (fun _ _ h => h)).pre p) (by rw [List.length_take]; omega) (by rw [List.length_take]; omega) hcm)
      have htp : (l.take p).length = p := by rw [List.length_take, ← HN.out.2]; omega
      rw [htp] at CC3
      have hML := chunks_len (l.take p)
      rw [htp] at hML
      obtain ⟨M, hM⟩ : ∃ M, M = (chunks (l.take p)).length := ⟨_, rfl⟩
      rw [← hM] at CC3 hML
      have HM := Lib.hid hM
      clear hM htp ho6 k6 k26 hSd CC2 CSI
      have i5 : (p : Int) ≤ cap := by omega
      go_upto_region 14 with (first | (go_at_call 28; (with_reducible refine (CP2.out _).mono ?_); rintro e w' ⟨rfl, rfl⟩) | (go_at_call 13; (with_reducible refine (CC3.out _ K8.out).mono ?_); rintro e w9 ⟨v9, rfl, ho9, hg9, k9⟩; obtain ⟨A9, c9, rfl, hc9, hm9⟩ := ho9.form; have H9 := Lib.hid (And.intro ho9 (K8.out.trans k9)); clear ho9 hg9 k9))
      have j0 : wrap64 ((M : Int) - 1) = (M : Int) - 1 := IntWalk.wrap64_in _ (by omega)
      go_loopw [12] (fun i wr => ∃ j : Nat, j ≤ M ∧ i = .int .i64 j ∧ Kp (fun _ => False) w9 wr) (fun i _ => M - (intOf i).toNat)
      case atStart => exact ⟨0, by omega, rfl, Kp.refl _ _⟩
      case round =>
        obtain ⟨j, hj, rfl, hkp⟩ := hrel
        by_cases hlt : j + 1 < M
        · obtain ⟨hjN, heq⟩ := chunks_pre l p j (by rw [← HM.out]; exact hlt)
          obtain ⟨b9, o9, rfl, hx9⟩ := H9.out.1.rd j (show j < (ints (lens (chunks (l.take p)))).length by simp [ints, lens_len]; rw [← HM.out]; omega)
          obtain ⟨b2, o2, rfl, hx2⟩ := H2.out.1.rd j (show j < (ints (lens (chunks l))).length by simp [ints, lens_len]; exact hjN)
          have e9 : (ints (lens (chunks (l.take p)))).getD j undef = .int .i64 ((lens (chunks l)).getD j 0 : Nat) := by
            rw [← heq]
            simp [ints, List.getD_eq_getElem?_getD, show j < (lens (chunks (l.take p))).length by rw [lens_len, ← HM.out]; omega]
          have e2 : (ints (lens (chunks l))).getD j undef = .int .i64 ((lens (chunks l)).getD j 0 : Nat) := by
            simp [ints, List.getD_eq_getElem?_getD, show j < (lens (chunks l)).length by rw [lens_len]; exact hjN]
          rw [e9] at hx9
          rw [e2] at hx2
          generalize (lens (chunks l)).getD j 0 = x at *
          have y9 := hkp.cell hx9 (fun h => h)
          have y2 := (H9.out.2.trans hkp).cell hx2 (fun h => h)
          have g1 : (j : Int) < (M : Int) - 1 := by omega
          have g2 : (j : Int) < (M : Int) := by omega
          have g3 : (j : Int) < (N : Int) := by have := HN.out.1; omega
          have g4 : ¬ (N : Int) ≤ (j : Int) := by omega
          have g5 : decide ((N : Int) ≤ (j : Int)) = false := decide_eq_false g4
          have HK := Lib.hid hkp
          clear hkp hx9 hx2 e9 e2 heq hjN
          go_upto_region 16 with fail
          go_quiet (fail)
          go_wp2
          go_roundw
          case rel => exact ⟨j + 1, by omega, by go_num, HK.out.drewN _⟩
          case measure => simp [intOf]; omega
        · have g1 : ¬ (j : Int) < (M : Int) - 1 := by omega
          have HK := Lib.hid hkp
          clear hkp
          go_wp2
          go_ret
          exact ⟨rfl, ((H2.out.2.2.trans H9.out.2).trans HK.out).below (fun _ _ h => h)⟩
theorem chunkAlone_walk (a0 : Option Addr) (len0 cap0 : Nat) (n1 n2 : Int) (w : World) (r0 : Rdg Try.prog w 22 [.slice a0 len0 cap0]) (r1 : Rdg Try.prog w 3 (Value.int .i64 n1).cells.toList) (r2 : Rdg Try.prog w 3 (Value.int .i64 n2).cells.toList) :
    Calls Try.prog 7 #[.slice a0 len0 cap0, .int .i64 n1, .int .i64 n2] w fun e w' => e = .returned (.bool true) ∧ Below w.heap.size w w' := by
  obtain ⟨k, e1, hk⟩ := Rdg.int Try.underlying3 r1
  have e2 : n1 = k := by have : [Value.int .i64 n1] = [.int .i64 k] := e1; simpa using this
  subst e2
  obtain ⟨k, e1, hk2⟩ := Rdg.int Try.underlying3 r2
  have e2 : n2 = k := by have : [Value.int .i64 n2] = [.int .i64 k] := e1; simpa using this
  subst e2
  have b1 : -9223372036854775808 ≤ n1 ∧ n1 ≤ 9223372036854775807 := by
    simp [Lit.wf, IntKind.min, IntKind.max, IntKind.signed, IntKind.bits] at hk; omega
  have b2 : -9223372036854775808 ≤ n2 ∧ n2 ≤ 9223372036854775807 := by
    simp [Lit.wf, IntKind.min, IntKind.max, IntKind.signed, IntKind.bits] at hk2; omega
  obtain ⟨_, l, _, e0, h, h1, h2⟩ := r0.bytes Try.underlying22 Try.underlying5 (by kernel_rfl) (by kernel_rfl)
  simp only [List.cons.injEq, Value.slice.injEq, and_true] at e0
  obtain ⟨rfl, rfl, rfl⟩ := e0
  have h3 : cap0 ≤ maxLen := by unfold maxLen; omega
  by_cases hl : l.length ≤ 8000
  · exact alone_main a0 cap0 l n1 n2 w h h1 h3 hl b1 b2
  · generalize l.length = n at *
    have hn : (8000 : Int) < (n : Int) := by omega
    clear r0 r1 r2 h hk hk2
    have AW := Lib.hid (fun w' => awake_any w')
    go_enter Try.func7, Try.ntmps7
    go_wp2_with (go_at_call 20; (with_reducible refine (AW.out _).mono ?_); rintro e w1 ⟨rfl, k1⟩; have K1 := Lib.hid k1; clear k1)
    go_ret
    exact ⟨rfl, K1.out.below (fun _ _ h => h)⟩
end Go.Proofs.Ytlabkldpcbmjbaa
