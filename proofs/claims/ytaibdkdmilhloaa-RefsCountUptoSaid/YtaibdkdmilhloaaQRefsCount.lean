/- RefsCount: the walk. (Written by wip/refcount.py.) -/
import Derived.Test.YtaibdkdmilhloaaQAwk
import Derived.Test.YtaibdkdmilhloaaQCnt
import Derived.Test.YtaibdkdmilhloaaQIdO
import Derived.Test.YtaibdkdmilhloaaQIdP
import Derived.Test.YtaibdkdmilhloaaQIdX
import Derived.Test.YtaibdkdmilhloaaQRCn
import Derived.Test.YtaibdkdmilhloaaQRDl
import Derived.Test.YtaibdkdmilhloaaQSnm
namespace Go.Proofs.Ytaibdkdmilhloaa
open Go.RowKit
set_option linter.unusedVariables false
set_option linter.unusedSimpArgs false
theorem bigB_no' {ms : List (List (List Id))} {n : Nat} (h : bigB ms n = false) : ms.length ≤ 8 ∧ bulkM ms ≤ 300 ∧ n ≤ 200 := by
  unfold bigB at h
  simp only [Bool.or_eq_false_iff, decide_eq_false_iff_not] at h
  omega
theorem bigB_nil (n : Nat) : bigB [] n = decide (200 < n) := by simp [bigB, bulkM]
theorem RdM.nil (w : World) (a : Option Addr) : RdM w a [] := fun i hi => absurd hi (Nat.not_lt_zero _)
theorem big2 (aa : Option Addr) (na ca : Nat) (w : World) : Calls Try.prog 16 #[.slice none 0 0, .slice aa na ca] w fun e w' => e = .returned (.bool (decide (200 < na))) ∧ Kp (fun _ => False) w w' := by
  have h := big_any none aa 0 0 na ca [] w rfl (RdM.nil w none) (by simp [bulkM])
  rwa [bigB_nil] at h
theorem refsCount_big (a0 a1 a2 : Option Addr) (n0 c0 n1 c1 n2 c2 : Nat) (ms : List (List (List Id))) (w : World) (hn0 : n0 = ms.length) (hm : RdM w a0 ms) (hb : bulkM ms ≤ 2000000) (hB : bigB ms n1 = true ∨ (bigB ms n1 = false ∧ 200 < n2)) :
    Calls Try.prog 6 #[.slice a0 n0 c0, .slice a1 n1 c1, .slice a2 n2 c2] w fun e w' => e = .returned (.bool true) ∧ Below w.heap.size w w' := by
  have cb := fun w' (k : Kp (fun _ => False) w w') => big_any a0 a1 n0 c0 n1 c1 ms w' hn0 (hm.kp0 k) hb
  have cb2 := fun w' => big2 a2 n2 c2 w'
  rcases hB with hB | ⟨hB, h2⟩
  · rw [hB] at cb
    have CB := Lib.hid cb
    clear hn0 hm hb hB cb cb2
    go_enter Try.func6, Try.ntmps6
    go_wp2_with fail
    go_at_call 16
    refine (CB.out _ (Kp.refl _ _)).mono ?_
    rintro e w2 ⟨rfl, k2⟩
    have K2 := Lib.hid k2
    clear k2
    go_wp2_with fail
    go_ret
    exact ⟨rfl, K2.out.below (fun _ _ h => h)⟩
  · rw [hB] at cb
    rw [decide_eq_true h2] at cb2
    have CB := Lib.hid cb
    have CB2 := Lib.hid cb2
    clear hn0 hm hb hB cb cb2 h2
    go_enter Try.func6, Try.ntmps6
    go_wp2_with fail
    go_at_call 16
    refine (CB.out _ (Kp.refl _ _)).mono ?_
    rintro e w2 ⟨rfl, k2⟩
    have K2 := Lib.hid k2
    clear k2
    go_wp2_with fail
    go_at_call 16
    refine (CB2.out _).mono ?_
    rintro e w3 ⟨rfl, k3⟩
    have K3 := Lib.hid k3
    clear k3
    go_wp2_with fail
    go_ret
    exact ⟨rfl, (K2.out.trans K3.out).below (fun _ _ h => h)⟩
theorem build9 (w : World) : (Instr.build 41 #[(0, .int .u8 9)]).run Try.prog w = .ok (.agg (idB (idk 9))) w := by kernel_rfl
set_option maxHeartbeats 8000000 in
set_option maxRecDepth 20000 in
theorem refsCount_main (a0 a1 a2 : Option Addr) (n0 c0 n1 c1 n2 c2 : Nat) (ms : List (List (List Id))) (AL ML : List Id) (w : World) (hn0 : n0 = ms.length) (hn1 : n1 = AL.length) (hn2 : n2 = ML.length) (hm : RdM w a0 ms) (hl : RdI w a1 AL) (hl2 : RdI w a2 ML) (hB : bigB ms n1 = false) (hB2 : n2 ≤ 200) :
    Calls Try.prog 6 #[.slice a0 n0 c0, .slice a1 n1 c1, .slice a2 n2 c2] w fun e w' => e = .returned (.bool true) ∧ Below w.heap.size w w' := by
  obtain ⟨q1, q2, q3⟩ := bigB_no' hB
  have q4 := allI_bulk ms
  have cb := fun w' (k : Kp (fun _ => False) w w') => big_any a0 a1 n0 c0 n1 c1 ms w' hn0 (hm.kp0 k) (by omega)
  rw [hB] at cb
  have cb2 := fun w' => big2 a2 n2 c2 w'
  rw [decide_eq_false (by omega)] at cb2
  have CD := Lib.hid (fun ah ch ai ci (w' : World) (k : RdM w' a0 ms) (h1 : RdI w' ah AL) (h2 : RdI w' ai ML) => dead_any ah a0 ai n1 ch n0 c0 n2 ci AL ms ML w' hn1 hn0 hn2 h1 k h2 (by omega))
  have CRD := Lib.hid (fun ah ch ai ci (w' : World) (k : RdM w' a0 ms) (h1 : RdI w' ah AL) (h2 : RdI w' ai ML) => rdead_any ah a0 ai n1 ch n0 c0 n2 ci AL ms ML w' hn1 hn0 hn2 h1 k h2 (by omega))
  have CL := Lib.hid (fun ai ci (w' : World) (k : RdM w' a0 ms) (h : RdI w' ai AL) => lost_any a0 ai n0 c0 n1 ci ms AL w' hn0 hn1 k h (by omega))
  have CRL := Lib.hid (fun ai ci (w' : World) (k : RdM w' a0 ms) (h : RdI w' ai AL) => rlost_any a0 ai n0 c0 n1 ci ms AL w' hn0 hn1 k h (by omega))
  have CC := Lib.hid (fun (w' : World) (k : RdM w' a0 ms) => count_any a0 n0 c0 ms w' hn0 k (by omega))
  have CRC := Lib.hid (fun (w' : World) (k : RdM w' a0 ms) => rcount_any a0 n0 c0 ms w' hn0 k (by omega))
  have CB := Lib.hid cb
  have CB2 := Lib.hid cb2
  have H := Lib.hid (And.intro hm (And.intro hl hl2))
  have HN := Lib.hid (show True ∧ n1 = AL.length ∧ n2 = ML.length from ⟨trivial, hn1, hn2⟩)
  have CCP := Lib.hid (fun (w' : World) (a : Option Addr) c (h : RdI w' a AL) => copy_ids c h n1 hn1 (by omega))
  have CCP2 := Lib.hid (fun (w' : World) (a : Option Addr) c (h : RdI w' a ML) => copy_ids c h n2 hn2 (by omega))
  have hx := newL_len (allI ms ++ ML) AL
  obtain ⟨DL, hDL⟩ : ∃ DL, DL = newL (allI ms ++ ML) AL := ⟨_, rfl⟩
  rw [← hDL] at hx
  obtain ⟨X, hX⟩ : ∃ X, X = DL.length := ⟨_, rfl⟩
  have hXb : X ≤ 200 := by omega
  have HDL := Lib.hid hDL
  have HDN := Lib.hid hX
  have hy := newL_len AL (allI ms)
  obtain ⟨LL, hLL⟩ : ∃ LL, LL = newL AL (allI ms) := ⟨_, rfl⟩
  rw [← hLL] at hy
  obtain ⟨Y, hY⟩ : ∃ Y, Y = LL.length := ⟨_, rfl⟩
  have hYb : Y ≤ 300 := by omega
  have HLL := Lib.hid hLL
  have HLN := Lib.hid hY
  have hnl := newL_len [] (allI ms)
  have hcl := cntL_len (allI ms)
  obtain ⟨CN, hCN⟩ : ∃ CN, CN = (cntL (allI ms)).length := ⟨_, rfl⟩
  have hCb : CN ≤ 300 := by omega
  have HCN := Lib.hid hCN
  have h9 := fun w' => build9 w'
  obtain ⟨V9, hV9⟩ : ∃ V9, V9 = idB (idk 9) := ⟨_, rfl⟩
  rw [← hV9] at h9
  have HB9 := Lib.hid h9
  have H9 := Lib.hid hV9
  clear cb cb2 hm hB hn0 hn1 hn2 q1 q2 q4 hl hl2 hx hDL hX hy hLL hY hnl hcl hCN h9 hV9
  go_enter Try.func6, Try.ntmps6
  go_wp2_with fail
  go_at_call 16
  refine (CB.out _ (Kp.refl _ _)).mono ?_
  rintro e wa ⟨rfl, ka⟩
  have KA := Lib.hid ka
  clear ka
  go_wp2_with fail
  go_at_call 16
  refine (CB2.out _).mono ?_
  rintro e wb ⟨rfl, kb⟩
  have kab := KA.out.trans kb
  obtain ⟨aa, ca, w1, hap1, hr1, hca, k1⟩ := CCP.out wb a1 c1 (H.out.2.1.kp0 kab)
  obtain ⟨ab, cb, w2, hap2, hr2, hcb, k2⟩ := CCP2.out w1 a2 c2 (H.out.2.2.kp0 (kab.trans k1))
  have HA1 := Lib.hid hap1
  have HA2 := Lib.hid hap2
  have kk := (kab.trans k1).trans k2
  have RA := Lib.hid (show RdI w2 aa AL ∧ RdI w2 ab ML ∧ RdI w2 a1 AL ∧ RdI w2 a2 ML ∧ RdM w2 a0 ms from ⟨hr1.kp0 k2, hr2, H.out.2.1.kp0 kk, H.out.2.2.kp0 kk, H.out.1.kp0 kk⟩)
  have K2 := Lib.hid kk
  clear kab kb hap1 hr1 k1 hap2 hr2 k2 kk
  go_wp2_with (first | (at_builtin; (with_reducible refine wpList_append_run _ HA1.out rfl rfl rfl rfl ?_)) | (at_builtin; (with_reducible refine wpList_append_run _ HA2.out rfl rfl rfl rfl ?_)))
  go_at_call 23
  refine (CD.out aa ca ab cb _ RA.out.2.2.2.2 RA.out.1 RA.out.2.1).mono ?_
  rintro e w3 ⟨v3, rfl, ho3, hg3, k3⟩
  obtain ⟨ax, cx, rfl, hr3, hc3⟩ := ho3.form
  rw [← HDL.out] at ho3 hr3 hc3 hg3 ⊢
  rw [← HDN.out] at ho3 hc3 hg3 ⊢
  have HGX := Lib.hid hg3
  have O3 := Lib.hid ho3
  have R3 := Lib.hid (And.intro hr3 k3)
  clear ho3 hg3 hr3 k3
  go_wp2_with fail
  go_at_call 17
  refine (CL.out aa ca _ (RA.out.2.2.2.2.kp0 R3.out.2) (RA.out.1.kp0 R3.out.2)).mono ?_
  rintro e w4 ⟨v4, rfl, ho4, hg4, k4⟩
  obtain ⟨ay, cy, rfl, hr4, hc4⟩ := ho4.form
  rw [← HLL.out] at ho4 hr4 hc4 hg4 ⊢
  rw [← HLN.out] at ho4 hc4 hg4 ⊢
  have HGY0 := Lib.hid hg4
  have O4 := Lib.hid ho4
  have R4 := Lib.hid (And.intro hr4 k4)
  clear ho4 hg4 hr4 k4
  go_wp2_with fail
  go_at_call 18
  refine (CC.out _ (RA.out.2.2.2.2.kp0 (R3.out.2.trans R4.out.2))).mono ?_
  rintro e w5 ⟨v5, rfl, ho5, hg5, k5⟩
  obtain ⟨an, cn, rfl, hr5, hc5⟩ := ho5.form
  rw [← HCN.out] at hc5 ⊢
  have R5 := Lib.hid (And.intro hr5 k5)
  clear ho5 hg5 hr5 k5
  go_wp2_with fail
  go_at_call 25
  refine (CRC.out _ (RA.out.2.2.2.2.kp0 ((R3.out.2.trans R4.out.2).trans R5.out.2))).mono ?_
  rintro e w6 ⟨v6, rfl, ho6, hg6, k6⟩
  obtain ⟨ap, cp, rfl, hr6, hc6⟩ := ho6.form
  rw [← HCN.out] at hc6 ⊢
  have R6 := Lib.hid (And.intro hr6 k6)
  clear ho6 hg6 hr6 k6
  go_wp2_with fail
  go_at_call 24
  refine (samenamed_eq an ap CN cn cp _ HCN.out _ (R5.out.1.kp0 R6.out.2) R6.out.1 (by omega)).mono ?_
  rintro e w7 ⟨rfl, k7⟩
  have K7 := Lib.hid k7
  have K27 := Lib.hid ((((R3.out.2.trans R4.out.2).trans R5.out.2).trans R6.out.2).trans k7)
  clear k7
  go_wp2_with fail
  go_at_call 27
  refine (CRD.out a1 c1 a2 c2 _ (RA.out.2.2.2.2.kp0 K27.out) (RA.out.2.2.1.kp0 K27.out) (RA.out.2.2.2.1.kp0 K27.out)).mono ?_
  rintro e w8 ⟨v8, rfl, ho8, hg8, k8⟩
  obtain ⟨ad8, cd8, rfl, hr8, hc8⟩ := ho8.form
  rw [← HDL.out] at hr8 hc8 ⊢
  rw [← HDN.out] at hc8 ⊢
  have R8 := Lib.hid (And.intro hr8 k8)
  clear ho8 hg8 hr8 k8
  go_wp2_with fail
  go_at_call 26
  refine (sameids_eq ax ad8 X cx cd8 DL HDN.out _ (((((R3.out.1.kp0 R4.out.2).kp0 R5.out.2).kp0 R6.out.2).kp0 K7.out).kp0 R8.out.2) R8.out.1 (by omega)).mono ?_
  rintro e wc ⟨rfl, kc⟩
  have KC := Lib.hid kc
  have K2C := Lib.hid ((K27.out.trans R8.out.2).trans kc)
  clear kc
  go_wp2_with fail
  go_at_call 28
  refine (CRL.out a1 c1 _ (RA.out.2.2.2.2.kp0 K2C.out) (RA.out.2.2.1.kp0 K2C.out)).mono ?_
  rintro e wd ⟨vd, rfl, hod, hgd, kd⟩
  obtain ⟨ae8, ce8, rfl, hre, hce⟩ := hod.form
  rw [← HLL.out] at hre hce ⊢
  rw [← HLN.out] at hce ⊢
  have RE8 := Lib.hid (And.intro hre kd)
  clear hod hgd hre kd
  go_wp2_with fail
  go_at_call 26
  refine (sameids_eq ay ae8 Y cy ce8 LL HLN.out _ ((((((R4.out.1.kp0 R5.out.2).kp0 R6.out.2).kp0 K7.out).kp0 R8.out.2).kp0 KC.out).kp0 RE8.out.2) RE8.out.1 (by omega)).mono ?_
  rintro e w9 ⟨rfl, kf⟩
  have K49 := Lib.hid ((((((R5.out.2.trans R6.out.2).trans K7.out).trans R8.out.2).trans KC.out).trans RE8.out.2).trans kf)
  have K9 := Lib.hid ((R3.out.2.trans R4.out.2).trans K49.out)
  clear kf
  have ox9 := O3.out.kp0 (R4.out.2.trans K49.out)
  have oy9 := O4.out.kp0 K49.out
  have VX := Lib.hid (fun (h : 0 < X) => (show ∃ g, ax = some ⟨g, 0, none⟩ from by
    rcases O3.out.own.2 with ⟨_, e⟩ | ⟨g, cap, sp, e, _⟩
    · have := HDN.out; omega
    · simp only [Value.slice.injEq] at e; exact ⟨g, e.1⟩))
  have VY := Lib.hid (fun (h : 0 < Y) => (show ∃ g, ay = some ⟨g, 0, none⟩ from by
    rcases O4.out.own.2 with ⟨_, e⟩ | ⟨g, cap, sp, e, _⟩
    · have := HLN.out; omega
    · simp only [Value.slice.injEq] at e; exact ⟨g, e.1⟩))
  have RX := Lib.hid (fun g (hg : (Value.slice ax X cx).ownBlock = some g) => (show ∃ cs, At w9 g cs ∧ X * 16 ≤ cs.length from by
    have hl := idC_len ox9.ids
    rcases ox9.own.2 with ⟨e, _⟩ | ⟨g', cap, sp, e, hat, _⟩
    · rw [e] at hg; simp [Value.ownBlock] at hg
    · rw [e] at hg
      have : g' = g := Option.some.inj hg
      subst this
      exact ⟨_, hat, by rw [List.length_append, hl, ← HDN.out]; omega⟩))
  have RY0 := Lib.hid (fun g (hg : (Value.slice ay Y cy).ownBlock = some g) => (show ∃ cs, At w9 g cs ∧ Y * 16 ≤ cs.length from by
    have hl := idC_len oy9.ids
    rcases oy9.own.2 with ⟨e, _⟩ | ⟨g', cap, sp, e, hat, _⟩
    · rw [e] at hg; simp [Value.ownBlock] at hg
    · rw [e] at hg
      have : g' = g := Option.some.inj hg
      subst this
      exact ⟨_, hat, by rw [List.length_append, hl, ← HLN.out]; omega⟩))
  have HXY := Lib.hid (fun g (h1 : (Value.slice ax X cx).ownBlock = some g) (h2 : (Value.slice ay Y cy).ownBlock = some g) => (show False from by
    have e1 := O3.out.own.lt g h1
    have e2 := HGY0.out g h2
    omega))
  have HGY := Lib.hid (fun g (h2 : (Value.slice ay Y cy).ownBlock = some g) => (show w2.heap.size ≤ g from by
    have e2 := HGY0.out g h2
    have := R3.out.2.size
    omega))
  clear ox9 oy9
  go_wp2_with fail
  go_loopw [12] (fun iv wr => ∃ i : Nat, i ≤ X ∧ iv = .int .i64 i ∧ (∀ g, (Value.slice ax X cx).ownBlock = some g → ∃ cs, At wr g cs ∧ X * 16 ≤ cs.length) ∧ Kp (fun g => (Value.slice ax X cx).ownBlock = some g) w9 wr) (fun iv _ => X - (intOf iv).toNat)
  case atStart => exact ⟨0, by omega, rfl, RX.out, Kp.refl _ _⟩
  case round =>
    obtain ⟨i, hi, rfl, hat, hk⟩ := hrel
    by_cases hlt : i < X
    · have j1 : (i : Int) < X := by omega
      obtain ⟨g, e1⟩ := VX.out (by omega)
      subst e1
      obtain ⟨cs, hcs, hcl⟩ := hat g rfl
      obtain ⟨w9, ds, hrun, k9, hds, hdl⟩ := store_id hcs (o := 0 + i * 16) (by omega) (x := idk 9) rfl
      rw [← H9.out] at hrun
      rw [Nat.zero_add] at hrun
      have HR := Lib.hid hrun
      have HZ := Lib.hid (And.intro (show ∃ cs, At w9 g cs ∧ X * 16 ≤ cs.length from ⟨ds, hds, by omega⟩) (And.intro k9 hk))
      clear hat hk hcs hcl hrun k9 hds hdl
      go_wp2_with (first | (refine wpList_build_run (ps := #[(0, .int .u8 9)]) rfl rfl rfl (HB9.out _) ?_) | (refine wpList_store_run HR.out rfl rfl rfl rfl ?_))
      go_roundw
      case rel =>
        refine ⟨i + 1, by omega, by go_num, fun g' hg' => ?_, HZ.out.2.2.trans (HZ.out.2.1.mono (fun j _ e => by rw [e]; rfl))⟩
        have : g = g' := Option.some.inj hg'
        subst this
        exact HZ.out.1
      case measure => simp [intOf]; omega
    · obtain rfl : X = i := by omega
      have HZ12 := Lib.hid hk
      clear hat hk hlt
      obtain ⟨w11, hw11⟩ : ∃ w11, w11 = wr := ⟨_, rfl⟩
      rw [← hw11] at HZ12 ⊢
      have RY := Lib.hid (fun g hg => (show ∃ cs, At w11 g cs ∧ Y * 16 ≤ cs.length from by
        obtain ⟨cs, h1, h2⟩ := RY0.out g hg
        exact ⟨cs, HZ12.out.at h1 (fun e => HXY.out g e hg), h2⟩))
      clear hw11 wr
      go_wp2_with fail
      go_loopw [13] (fun iv wr => ∃ i : Nat, i ≤ Y ∧ iv = .int .i64 i ∧ (∀ g, (Value.slice ay Y cy).ownBlock = some g → ∃ cs, At wr g cs ∧ Y * 16 ≤ cs.length) ∧ Kp (fun g => (Value.slice ay Y cy).ownBlock = some g) w11 wr) (fun iv _ => Y - (intOf iv).toNat)
      case atStart => exact ⟨0, by omega, rfl, RY.out, Kp.refl _ _⟩
      case round =>
        obtain ⟨i, hi, rfl, hat, hk⟩ := hrel
        by_cases hlt : i < Y
        · have j1 : (i : Int) < Y := by omega
          obtain ⟨g, e1⟩ := VY.out (by omega)
          subst e1
          obtain ⟨cs, hcs, hcl⟩ := hat g rfl
          obtain ⟨w9, ds, hrun, k9, hds, hdl⟩ := store_id hcs (o := 0 + i * 16) (by omega) (x := idk 9) rfl
          rw [← H9.out] at hrun
          rw [Nat.zero_add] at hrun
          have HR := Lib.hid hrun
          have HZ := Lib.hid (And.intro (show ∃ cs, At w9 g cs ∧ Y * 16 ≤ cs.length from ⟨ds, hds, by omega⟩) (And.intro k9 hk))
          clear hat hk hcs hcl hrun k9 hds hdl
          go_wp2_with (first | (refine wpList_build_run (ps := #[(0, .int .u8 9)]) rfl rfl rfl (HB9.out _) ?_) | (refine wpList_store_run HR.out rfl rfl rfl rfl ?_))
          go_roundw
          case rel =>
            refine ⟨i + 1, by omega, by go_num, fun g' hg' => ?_, HZ.out.2.2.trans (HZ.out.2.1.mono (fun j _ e => by rw [e]; rfl))⟩
            have : g = g' := Option.some.inj hg'
            subst this
            exact HZ.out.1
          case measure => simp [intOf]; omega
        · obtain rfl : Y = i := by omega
          have HZ13 := Lib.hid hk
          clear hat hk hlt
          obtain ⟨wz, hwz⟩ : ∃ wz, wz = wr := ⟨_, rfl⟩
          rw [← hwz] at HZ13 ⊢
          clear hwz wr
          have kz : Kp (fun j => w2.heap.size ≤ j) w2 wz := (((K9.out.mono (fun _ _ h => h.elim)).then HZ12.out (fun j hj e => HGX.out j e)).then HZ13.out (fun j hj e => HGY.out j e))
          have RZ := Lib.hid (show RdI wz aa AL ∧ RdI wz ab ML ∧ RdI wz a1 AL ∧ RdI wz a2 ML ∧ RdM wz a0 ms from ⟨RA.out.1.ge kz, RA.out.2.1.ge kz, RA.out.2.2.1.ge kz, RA.out.2.2.2.1.ge kz, RA.out.2.2.2.2.ge kz⟩)
          have KZ := Lib.hid (show Kp (fun _ => False) w wz from K2.out.then kz (fun j hj e => by have := K2.out.size; omega))
          clear kz
          go_wp2_with fail
          go_at_call 26
          refine (sameids_eq aa a1 n1 ca c1 AL HN.out.2.1 _ RZ.out.1 RZ.out.2.2.1 (by omega)).mono ?_
          rintro e z1 ⟨rfl, j⟩
          have Kz1 := Lib.hid j
          clear j
          go_wp2_with fail
          go_at_call 26
          refine (sameids_eq ab a2 n2 cb c2 ML HN.out.2.2 _ (RZ.out.2.1.kp0 Kz1.out) (RZ.out.2.2.2.1.kp0 Kz1.out) (by omega)).mono ?_
          rintro e z2 ⟨rfl, j⟩
          have Kz2 := Lib.hid j
          clear j
          go_wp2_with fail
          go_at_call 23
          refine (CD.out a1 c1 a2 c2 _ (RZ.out.2.2.2.2.kp0 (Kz1.out.trans Kz2.out)) (RZ.out.2.2.1.kp0 (Kz1.out.trans Kz2.out)) (RZ.out.2.2.2.1.kp0 (Kz1.out.trans Kz2.out))).mono ?_
          rintro e z3 ⟨vd, rfl, hod, hgd, j⟩
          obtain ⟨ad, cd, rfl, hrd, hcd⟩ := hod.form
          rw [← HDL.out] at hrd hcd ⊢
          rw [← HDN.out] at hcd ⊢
          have RD := Lib.hid hrd
          clear hod hgd hrd
          have Kz3 := Lib.hid j
          clear j
          go_wp2_with fail
          go_at_call 27
          refine (CRD.out a1 c1 a2 c2 _ (RZ.out.2.2.2.2.kp0 ((Kz1.out.trans Kz2.out).trans Kz3.out)) (RZ.out.2.2.1.kp0 ((Kz1.out.trans Kz2.out).trans Kz3.out)) (RZ.out.2.2.2.1.kp0 ((Kz1.out.trans Kz2.out).trans Kz3.out))).mono ?_
          rintro e z4 ⟨ve, rfl, hoe, hge, j⟩
          obtain ⟨ae, ce, rfl, hre, hce⟩ := hoe.form
          rw [← HDL.out] at hre hce ⊢
          rw [← HDN.out] at hce ⊢
          have RE := Lib.hid hre
          clear hoe hge hre
          have Kz4 := Lib.hid j
          clear j
          go_wp2_with fail
          go_at_call 26
          refine (sameids_eq ad ae X cd ce DL HDN.out _ (RD.out.kp0 Kz4.out) RE.out (by omega)).mono ?_
          rintro e z5 ⟨rfl, j⟩
          have Kz5 := Lib.hid j
          clear j
          go_wp2_with fail
          go_at_call 15
          refine (awake_any _).mono ?_
          rintro e z6 ⟨rfl, j⟩
          have Kz6 := Lib.hid j
          clear j
          go_wp2_with fail
          go_ret
          exact ⟨rfl, (KZ.out.trans (((((Kz1.out.trans Kz2.out).trans Kz3.out).trans Kz4.out).trans Kz5.out).trans Kz6.out)).below (fun _ _ h => h)⟩
theorem refsCount_walk (a0 : Option Addr) (len0 cap0 : Nat) (a1 : Option Addr) (len1 cap1 : Nat) (a2 : Option Addr) (len2 cap2 : Nat) (w : World) (r0 : Rdu Try.prog w 33 [.slice a0 len0 cap0] 1048576) (r1 : Rdu Try.prog w 34 [.slice a1 len1 cap1] 1048576) (r2 : Rdu Try.prog w 34 [.slice a2 len2 cap2] 1048576) :
    Calls Try.prog 6 #[.slice a0 len0 cap0, .slice a1 len1 cap1, .slice a2 len2 cap2] w fun e w' => e = .returned (.bool true) ∧ Below w.heap.size w w' := by
  obtain ⟨a, ms, cap, e, hm, _, hb, _⟩ := open_mans r0 (by omega)
  obtain ⟨a', L, cap', e', hl, _, _⟩ := open_ids r1
  obtain ⟨a'', L2, cap'', e'', hl2, _, _⟩ := open_ids r2
  simp only [List.cons.injEq, Value.slice.injEq, and_true] at e e' e''
  obtain ⟨rfl, rfl, rfl⟩ := e
  obtain ⟨rfl, rfl, rfl⟩ := e'
  obtain ⟨rfl, rfl, rfl⟩ := e''
  cases hB : bigB ms L.length
  · by_cases h2 : 200 < L2.length
    · exact refsCount_big _ _ _ _ _ _ _ _ _ ms w rfl hm (by omega) (.inr ⟨hB, h2⟩)
    · exact refsCount_main _ _ _ _ _ _ _ _ _ ms L L2 w rfl rfl rfl hm hl hl2 hB (by omega)
  · exact refsCount_big _ _ _ _ _ _ _ _ _ ms w rfl hm (by omega) (.inl hB)
end Go.Proofs.Ytaibdkdmilhloaa
