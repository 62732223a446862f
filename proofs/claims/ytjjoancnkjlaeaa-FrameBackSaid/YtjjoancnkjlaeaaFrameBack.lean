/- FrameBack. (Written by wip/frback.py.) -/
import Derived.Test.YtjjoancnkjlaeaaFrmZ
namespace Go.Proofs.Ytjjoancnkjlaeaa
open Go.RowKit
set_option linter.unusedVariables false
set_option linter.unusedSimpArgs false
set_option maxHeartbeats 2000000 in
set_option maxRecDepth 20000 in
theorem back_oo (f : Fr) (a : Option Addr) (c : Nat) (b : Option Addr) (cap : Nat) (l : List Int) (w : World) (hI : frI f) (hr : RdB w a f.bd) (hc : f.bd.length ≤ c) (hb : RdB w b l) (hcap : l.length ≤ cap) (hcm : cap ≤ maxLen) (hl : f.bd.length ≤ 2000) (hl2 : l.length ≤ 2000) (he : errF f = 0) (hg : errR l = 0) :
    Calls Try.prog 6 #[.agg (frA f a c), .slice b l.length cap] w fun e w' => e = .returned (.bool true) ∧ Below w.heap.size w w' := by
  have AW := Lib.hid (fun w' => awake_any w')
  have CC := Lib.hid (fun w' => fcheck_any f a c w' (by omega) hI.1 hI.2.1 hI.2.2.1 hI.2.2.2)
  have CP := Lib.hid (fun w' (h : RdB w' a f.bd) => fput_ok f a c w' hI h hc he)
  have CRX := Lib.hid (fun w' va vc (h : RdB w' va (layF f)) h1 h2 => fread_lay f he va vc w' h h1 h2)
  have CGX := Lib.hid (fun w' va vc (h : RdB w' va (layF f)) h1 h2 => gcheck_lay f va vc w' h (by omega) h1 h2)
  have CSX := Lib.hid (fun w' A c4 a c (h1 : RdB w' A f.bd) (h2 : RdB w' a f.bd) => samef_any f f A a c4 c w' h1 h2)
  rw [show sameF f f = true from (sameF_iff _ _).2 rfl] at CSX
  have HLL := Lib.hid (layF_len f)
  rw [he] at CC
  generalize layF f = lf at *
  obtain ⟨g1, g2, g3⟩ := frR_good hg hb.bd
  have CRB := Lib.hid (fun w' (h : RdB w' b l) => fread_good l hg b cap w' h (by omega) hcap hcm)
  have CPB := Lib.hid (fun w' A c9 (h : RdB w' A (frR l).bd) => fput_ok2 (frR l) A c9 w' g3 h g1)
  rw [g2] at CPB
  have CSB := Lib.hid (fun w' x p (h : RdB w' x l) (h' : RdB w' b l) => same_any x b p cap l l w' h h')
  rw [decide_eq_true (rfl : l = l)] at CSB
  generalize frR l = g at *
  obtain ⟨gt, gs, gb, gq, ga, gbd⟩ := g
  obtain ⟨ty, se, bo, sq, ac, bd⟩ := f
  dsimp only [frA] at *
  have hR := Lib.hid (fun w' (k : Kp (fun _ => False) w w') => hr.kp0 k (fun _ _ h => h))
  have hB := Lib.hid (fun w' (k : Kp (fun _ => False) w w') => hb.kp0 k (fun _ _ h => h))
  clear hI hr hb hcm
  generalize bd.length = n at *
  generalize hnb : l.length = nb at *
  have HNB := Lib.hid hnb
  clear hnb
  generalize hgn : gbd.length = gn at *
  clear hgn
  clear g1 g2 g3
  go_enter Try.func6, Try.ntmps6
  go_upto_region 12 with (first | (go_at_call 18; (with_reducible refine (AW.out _).mono ?_); rintro e w1 ⟨rfl, k1⟩; have ha1 := k1.at (At.new w [.int .i64 ty, .int .i64 se, .int .i64 bo, .int .i64 sq, .int .i64 ac, .slice a n c] 24) (fun h => h); have x0 := (ha1.cell 0).trans (show _ = some (.int .i64 ty) from rfl); have x1 := (ha1.cell 1).trans (show _ = some (.int .i64 se) from rfl); have x2 := (ha1.cell 2).trans (show _ = some (.int .i64 bo) from rfl); have x3 := (ha1.cell 3).trans (show _ = some (.int .i64 sq) from rfl); have x4 := (ha1.cell 4).trans (show _ = some (.int .i64 ac) from rfl); have x5 := (ha1.cell 5).trans (show _ = some (.slice a n c) from rfl); have K1 := Lib.hid (And.intro (((Kp.refl (fun _ => False) w).alloc _).trans k1) ha1); clear ha1 k1) | (go_at_call 11; (with_reducible refine (CP.out _ ?_).mono ?_); exact hR.out _ K1.out.1; rintro e w2 ⟨v, rfl, hv, _, k2⟩; obtain ⟨va, vc, rfl, hvr, hvc, hvm⟩ := hv.form2; rw [HLL.out] at hvc ⊢; have ha2 := k2.at K1.out.2 (fun h => h); have y0 := (ha2.cell 0).trans (show _ = some (.int .i64 ty) from rfl); have y1 := (ha2.cell 1).trans (show _ = some (.int .i64 se) from rfl); have y2 := (ha2.cell 2).trans (show _ = some (.int .i64 bo) from rfl); have y3 := (ha2.cell 3).trans (show _ = some (.int .i64 sq) from rfl); have y4 := (ha2.cell 4).trans (show _ = some (.int .i64 ac) from rfl); have y5 := (ha2.cell 5).trans (show _ = some (.slice a n c) from rfl); have K2 := Lib.hid (And.intro (K1.out.1.trans k2) ha2); have HV := Lib.hid (And.intro hvr (And.intro hvc hvm)); clear ha2 k2 hv hvr hvc hvm) | (go_at_call 14; (with_reducible refine (CC.out _).mono ?_); rintro e w3 ⟨rfl, k3⟩; have ha3 := k3.at K2.out.2 (fun h => h); have z0 := (ha3.cell 0).trans (show _ = some (.int .i64 ty) from rfl); have z1 := (ha3.cell 1).trans (show _ = some (.int .i64 se) from rfl); have z2 := (ha3.cell 2).trans (show _ = some (.int .i64 bo) from rfl); have z3 := (ha3.cell 3).trans (show _ = some (.int .i64 sq) from rfl); have z4 := (ha3.cell 4).trans (show _ = some (.int .i64 ac) from rfl); have z5 := (ha3.cell 5).trans (show _ = some (.slice a n c) from rfl); have K3 := Lib.hid (And.intro (K2.out.1.trans k3) (And.intro ha3 k3)); clear ha3 k3) | (go_at_call 19; (with_reducible refine (CRX.out _ _ _ ?_ HV.out.2.1 HV.out.2.2).mono ?_); exact HV.out.1.kp0 K3.out.2.2 (fun _ _ h => h); rintro e w4 ⟨A, c4, rfl, h4, k4⟩; have HR4 := Lib.hid (And.intro h4 k4); clear h4 k4) | (go_at_call 25; (with_reducible refine (CGX.out _ _ _ ?_ HV.out.2.1 HV.out.2.2).mono ?_); exact HV.out.1.kp0 (K3.out.2.2.trans (HR4.out.2.alloc _)) (fun _ _ h => h); rintro e w5 ⟨B, c5, rfl, k5⟩; have hk5 := (HR4.out.2.alloc (.cells #[.int .i64 ty, .int .i64 se, .int .i64 bo, .int .i64 sq, .int .i64 ac, .slice A n c4] 24)).trans k5; have ha5 := hk5.at K3.out.2.1 (fun h => h); have hb5 := k5.at (At.new w4 [.int .i64 ty, .int .i64 se, .int .i64 bo, .int .i64 sq, .int .i64 ac, .slice A n c4] 24) (fun h => h); have x0 := (ha5.cell 0).trans (show _ = some (.int .i64 ty) from rfl); have x1 := (ha5.cell 1).trans (show _ = some (.int .i64 se) from rfl); have x2 := (ha5.cell 2).trans (show _ = some (.int .i64 bo) from rfl); have x3 := (ha5.cell 3).trans (show _ = some (.int .i64 sq) from rfl); have x4 := (ha5.cell 4).trans (show _ = some (.int .i64 ac) from rfl); have x5 := (ha5.cell 5).trans (show _ = some (.slice a n c) from rfl); have y0 := (hb5.cell 0).trans (show _ = some (.int .i64 ty) from rfl); have y1 := (hb5.cell 1).trans (show _ = some (.int .i64 se) from rfl); have y2 := (hb5.cell 2).trans (show _ = some (.int .i64 bo) from rfl); have y3 := (hb5.cell 3).trans (show _ = some (.int .i64 sq) from rfl); have y4 := (hb5.cell 4).trans (show _ = some (.int .i64 ac) from rfl); have y5 := (hb5.cell 5).trans (show _ = some (.slice A n c4) from rfl); have K5 := Lib.hid (And.intro (K3.out.1.trans hk5) (And.intro (HR4.out.1.kp0 (((Kp.refl (fun _ => False) w4).alloc _).trans k5) (fun _ _ h => h)) ha5)); clear ha5 hb5 hk5 k5) | (go_at_call 21; (with_reducible refine (CSX.out _ _ _ _ _ K5.out.2.1 ?_).mono ?_); exact hR.out _ K5.out.1; rintro e w6 ⟨rfl, k6⟩; have s5 := ((k6.at K5.out.2.2 (fun h => h)).cell 5).trans (show _ = some (.slice a n c) from rfl); have K6 := Lib.hid (K5.out.1.trans k6); clear k6))
  have KF := Lib.hid K6.out
  go_upto_region 15 with (go_at_call 19; (with_reducible refine (CRB.out _ ?_).mono ?_); exact hB.out _ KF.out; rintro e w7 ⟨A7, c7, rfl, h7, k7⟩; have HR7 := Lib.hid (And.intro h7 k7); clear h7 k7)
  refine wp_world (fun wx => At wx w7.heap.size [.int .i64 gt, .int .i64 gs, .int .i64 gb, .int .i64 gq, .int .i64 ga, .slice A7 gn c7] ∧ Kp (fun _ => False) w7 wx) ⟨At.new w7 [.int .i64 gt, .int .i64 gs, .int .i64 gb, .int .i64 gq, .int .i64 ga, .slice A7 gn c7] _, (Kp.refl _ w7).alloc _⟩ ?_
  rintro w8 ⟨ha8, k8⟩
  have q0 := (ha8.cell 0).trans (show _ = some (.int .i64 gt) from rfl); have q1 := (ha8.cell 1).trans (show _ = some (.int .i64 gs) from rfl); have q2 := (ha8.cell 2).trans (show _ = some (.int .i64 gb) from rfl); have q3 := (ha8.cell 3).trans (show _ = some (.int .i64 gq) from rfl); have q4 := (ha8.cell 4).trans (show _ = some (.int .i64 ga) from rfl); have q5 := (ha8.cell 5).trans (show _ = some (.slice A7 gn c7) from rfl)
  have K8 := Lib.hid k8
  clear ha8 k8
  go_wp2_with (first | (go_at_call 11; (with_reducible refine (CPB.out _ _ _ ?_).mono ?_); exact HR7.out.1.kp0 K8.out (fun _ _ h => h); rintro e w9 ⟨u, rfl, hu, _, k9⟩; obtain ⟨ua, uc, rfl, hur, _⟩ := hu.form; rw [HNB.out]; have K9 := Lib.hid (And.intro hur (KF.out.trans ((HR7.out.2.trans K8.out).trans k9))); clear hu hur k9) | (go_at_call 13; (with_reducible refine (CSB.out _ _ _ K9.out.1 ?_).mono ?_); exact hB.out _ K9.out.2; rintro e w10 ⟨rfl, rfl⟩))
  go_ret
  exact ⟨rfl, K9.out.2.below (fun _ _ h => h)⟩
set_option maxHeartbeats 2000000 in
set_option maxRecDepth 20000 in
theorem back_ox (f : Fr) (a : Option Addr) (c : Nat) (b : Option Addr) (cap : Nat) (l : List Int) (w : World) (hI : frI f) (hr : RdB w a f.bd) (hc : f.bd.length ≤ c) (hb : RdB w b l) (hcap : l.length ≤ cap) (hcm : cap ≤ maxLen) (hl : f.bd.length ≤ 2000) (hl2 : l.length ≤ 2000) (he : errF f = 0) (hg : errR l ≠ 0) :
    Calls Try.prog 6 #[.agg (frA f a c), .slice b l.length cap] w fun e w' => e = .returned (.bool true) ∧ Below w.heap.size w w' := by
  have AW := Lib.hid (fun w' => awake_any w')
  have CC := Lib.hid (fun w' => fcheck_any f a c w' (by omega) hI.1 hI.2.1 hI.2.2.1 hI.2.2.2)
  have CP := Lib.hid (fun w' (h : RdB w' a f.bd) => fput_ok f a c w' hI h hc he)
  have CRX := Lib.hid (fun w' va vc (h : RdB w' va (layF f)) h1 h2 => fread_lay f he va vc w' h h1 h2)
  have CGX := Lib.hid (fun w' va vc (h : RdB w' va (layF f)) h1 h2 => gcheck_lay f va vc w' h (by omega) h1 h2)
  have CSX := Lib.hid (fun w' A c4 a c (h1 : RdB w' A f.bd) (h2 : RdB w' a f.bd) => samef_any f f A a c4 c w' h1 h2)
  rw [show sameF f f = true from (sameF_iff _ _).2 rfl] at CSX
  have HLL := Lib.hid (layF_len f)
  rw [he] at CC
  generalize layF f = lf at *
  have CRB := Lib.hid (fun w' (h : RdB w' b l) => fread_ill l hg b cap w' h (by omega) hcap hcm)
  have CSZ := Lib.hid (fun w' A c9 (h : RdB w' A zF.bd) => samef_any zF zF A none c9 0 w' h (RdB.nil _ _))
  rw [show sameF zF zF = true from (sameF_iff _ _).2 rfl] at CSZ
  simp only [show ∀ A c9, frA zF A c9 = #[.int .i64 0, .int .i64 0, .int .i64 0, .int .i64 0, .int .i64 0, .slice A 0 c9] from fun _ _ => rfl] at CSZ CRB
  have d1 : (errR l == 0) = false := by simpa using hg
  have d2 : (errR l != 0) = true := by simpa using hg
  generalize errR l = el at *
  obtain ⟨ty, se, bo, sq, ac, bd⟩ := f
  dsimp only [frA] at *
  have hR := Lib.hid (fun w' (k : Kp (fun _ => False) w w') => hr.kp0 k (fun _ _ h => h))
  have hB := Lib.hid (fun w' (k : Kp (fun _ => False) w w') => hb.kp0 k (fun _ _ h => h))
  clear hI hr hb hcm
  generalize bd.length = n at *
  generalize hnb : l.length = nb at *
  have HNB := Lib.hid hnb
  clear hnb
  go_enter Try.func6, Try.ntmps6
  go_upto_region 12 with (first | (go_at_call 18; (with_reducible refine (AW.out _).mono ?_); rintro e w1 ⟨rfl, k1⟩; have ha1 := k1.at (At.new w [.int .i64 ty, .int .i64 se, .int .i64 bo, .int .i64 sq, .int .i64 ac, .slice a n c] 24) (fun h => h); have x0 := (ha1.cell 0).trans (show _ = some (.int .i64 ty) from rfl); have x1 := (ha1.cell 1).trans (show _ = some (.int .i64 se) from rfl); have x2 := (ha1.cell 2).trans (show _ = some (.int .i64 bo) from rfl); have x3 := (ha1.cell 3).trans (show _ = some (.int .i64 sq) from rfl); have x4 := (ha1.cell 4).trans (show _ = some (.int .i64 ac) from rfl); have x5 := (ha1.cell 5).trans (show _ = some (.slice a n c) from rfl); have K1 := Lib.hid (And.intro (((Kp.refl (fun _ => False) w).alloc _).trans k1) ha1); clear ha1 k1) | (go_at_call 11; (with_reducible refine (CP.out _ ?_).mono ?_); exact hR.out _ K1.out.1; rintro e w2 ⟨v, rfl, hv, _, k2⟩; obtain ⟨va, vc, rfl, hvr, hvc, hvm⟩ := hv.form2; rw [HLL.out] at hvc ⊢; have ha2 := k2.at K1.out.2 (fun h => h); have y0 := (ha2.cell 0).trans (show _ = some (.int .i64 ty) from rfl); have y1 := (ha2.cell 1).trans (show _ = some (.int .i64 se) from rfl); have y2 := (ha2.cell 2).trans (show _ = some (.int .i64 bo) from rfl); have y3 := (ha2.cell 3).trans (show _ = some (.int .i64 sq) from rfl); have y4 := (ha2.cell 4).trans (show _ = some (.int .i64 ac) from rfl); have y5 := (ha2.cell 5).trans (show _ = some (.slice a n c) from rfl); have K2 := Lib.hid (And.intro (K1.out.1.trans k2) ha2); have HV := Lib.hid (And.intro hvr (And.intro hvc hvm)); clear ha2 k2 hv hvr hvc hvm) | (go_at_call 14; (with_reducible refine (CC.out _).mono ?_); rintro e w3 ⟨rfl, k3⟩; have ha3 := k3.at K2.out.2 (fun h => h); have z0 := (ha3.cell 0).trans (show _ = some (.int .i64 ty) from rfl); have z1 := (ha3.cell 1).trans (show _ = some (.int .i64 se) from rfl); have z2 := (ha3.cell 2).trans (show _ = some (.int .i64 bo) from rfl); have z3 := (ha3.cell 3).trans (show _ = some (.int .i64 sq) from rfl); have z4 := (ha3.cell 4).trans (show _ = some (.int .i64 ac) from rfl); have z5 := (ha3.cell 5).trans (show _ = some (.slice a n c) from rfl); have K3 := Lib.hid (And.intro (K2.out.1.trans k3) (And.intro ha3 k3)); clear ha3 k3) | (go_at_call 19; (with_reducible refine (CRX.out _ _ _ ?_ HV.out.2.1 HV.out.2.2).mono ?_); exact HV.out.1.kp0 K3.out.2.2 (fun _ _ h => h); rintro e w4 ⟨A, c4, rfl, h4, k4⟩; have HR4 := Lib.hid (And.intro h4 k4); clear h4 k4) | (go_at_call 25; (with_reducible refine (CGX.out _ _ _ ?_ HV.out.2.1 HV.out.2.2).mono ?_); exact HV.out.1.kp0 (K3.out.2.2.trans (HR4.out.2.alloc _)) (fun _ _ h => h); rintro e w5 ⟨B, c5, rfl, k5⟩; have hk5 := (HR4.out.2.alloc (.cells #[.int .i64 ty, .int .i64 se, .int .i64 bo, .int .i64 sq, .int .i64 ac, .slice A n c4] 24)).trans k5; have ha5 := hk5.at K3.out.2.1 (fun h => h); have hb5 := k5.at (At.new w4 [.int .i64 ty, .int .i64 se, .int .i64 bo, .int .i64 sq, .int .i64 ac, .slice A n c4] 24) (fun h => h); have x0 := (ha5.cell 0).trans (show _ = some (.int .i64 ty) from rfl); have x1 := (ha5.cell 1).trans (show _ = some (.int .i64 se) from rfl); have x2 := (ha5.cell 2).trans (show _ = some (.int .i64 bo) from rfl); have x3 := (ha5.cell 3).trans (show _ = some (.int .i64 sq) from rfl); have x4 := (ha5.cell 4).trans (show _ = some (.int .i64 ac) from rfl); have x5 := (ha5.cell 5).trans (show _ = some (.slice a n c) from rfl); have y0 := (hb5.cell 0).trans (show _ = some (.int .i64 ty) from rfl); have y1 := (hb5.cell 1).trans (show _ = some (.int .i64 se) from rfl); have y2 := (hb5.cell 2).trans (show _ = some (.int .i64 bo) from rfl); have y3 := (hb5.cell 3).trans (show _ = some (.int .i64 sq) from rfl); have y4 := (hb5.cell 4).trans (show _ = some (.int .i64 ac) from rfl); have y5 := (hb5.cell 5).trans (show _ = some (.slice A n c4) from rfl); have K5 := Lib.hid (And.intro (K3.out.1.trans hk5) (And.intro (HR4.out.1.kp0 (((Kp.refl (fun _ => False) w4).alloc _).trans k5) (fun _ _ h => h)) ha5)); clear ha5 hb5 hk5 k5) | (go_at_call 21; (with_reducible refine (CSX.out _ _ _ _ _ K5.out.2.1 ?_).mono ?_); exact hR.out _ K5.out.1; rintro e w6 ⟨rfl, k6⟩; have s5 := ((k6.at K5.out.2.2 (fun h => h)).cell 5).trans (show _ = some (.slice a n c) from rfl); have K6 := Lib.hid (K5.out.1.trans k6); clear k6))
  have KF := Lib.hid K6.out
  go_upto_region 14 with (go_at_call 19; (with_reducible refine (CRB.out _ ?_).mono ?_); exact hB.out _ KF.out; rintro e w7 ⟨A7, c7, rfl, h7, k7⟩; have HR7 := Lib.hid (And.intro h7 k7); clear h7 k7)
  refine wp_world (fun wx => At wx w7.heap.size [.int .i64 0, .int .i64 0, .int .i64 0, .int .i64 0, .int .i64 0, .slice A7 0 c7] ∧ Kp (fun _ => False) w7 wx) ⟨At.new w7 [.int .i64 0, .int .i64 0, .int .i64 0, .int .i64 0, .int .i64 0, .slice A7 0 c7] _, (Kp.refl _ w7).alloc _⟩ ?_
  rintro w8 ⟨ha8, k8⟩
  have q0 := (ha8.cell 0).trans (show _ = some (.int .i64 0) from rfl); have q1 := (ha8.cell 1).trans (show _ = some (.int .i64 0) from rfl); have q2 := (ha8.cell 2).trans (show _ = some (.int .i64 0) from rfl); have q3 := (ha8.cell 3).trans (show _ = some (.int .i64 0) from rfl); have q4 := (ha8.cell 4).trans (show _ = some (.int .i64 0) from rfl); have q5 := (ha8.cell 5).trans (show _ = some (.slice A7 0 c7) from rfl)
  have K8 := Lib.hid k8
  clear ha8 k8
  go_wp2_with (go_at_call 21; (with_reducible refine (CSZ.out _ _ _ ?_).mono ?_); exact HR7.out.1.kp0 K8.out (fun _ _ h => h); rintro e w9 ⟨rfl, k9⟩)
  go_ret
  exact ⟨rfl, (KF.out.trans ((HR7.out.2.trans K8.out).trans k9)).below (fun _ _ h => h)⟩
set_option maxHeartbeats 2000000 in
set_option maxRecDepth 20000 in
theorem back_xo (f : Fr) (a : Option Addr) (c : Nat) (b : Option Addr) (cap : Nat) (l : List Int) (w : World) (hI : frI f) (hr : RdB w a f.bd) (hc : f.bd.length ≤ c) (hb : RdB w b l) (hcap : l.length ≤ cap) (hcm : cap ≤ maxLen) (hl : f.bd.length ≤ 2000) (hl2 : l.length ≤ 2000) (he : errF f ≠ 0) (hg : errR l = 0) :
    Calls Try.prog 6 #[.agg (frA f a c), .slice b l.length cap] w fun e w' => e = .returned (.bool true) ∧ Below w.heap.size w w' := by
  have AW := Lib.hid (fun w' => awake_any w')
  have CC := Lib.hid (fun w' => fcheck_any f a c w' (by omega) hI.1 hI.2.1 hI.2.2.1 hI.2.2.2)
  have CP := Lib.hid (fun w' => fput_bad f a c w' hI (by omega) he)
  have e1 : (errF f == 0) = false := by simpa using he
  have e2 : (errF f != 0) = true := by simpa using he
  generalize errF f = er at *
  obtain ⟨g1, g2, g3⟩ := frR_good hg hb.bd
  have CRB := Lib.hid (fun w' (h : RdB w' b l) => fread_good l hg b cap w' h (by omega) hcap hcm)
  have CPB := Lib.hid (fun w' A c9 (h : RdB w' A (frR l).bd) => fput_ok2 (frR l) A c9 w' g3 h g1)
  rw [g2] at CPB
  have CSB := Lib.hid (fun w' x p (h : RdB w' x l) (h' : RdB w' b l) => same_any x b p cap l l w' h h')
  rw [decide_eq_true (rfl : l = l)] at CSB
  generalize frR l = g at *
  obtain ⟨gt, gs, gb, gq, ga, gbd⟩ := g
  obtain ⟨ty, se, bo, sq, ac, bd⟩ := f
  dsimp only [frA] at *
  have hR := Lib.hid (fun w' (k : Kp (fun _ => False) w w') => hr.kp0 k (fun _ _ h => h))
  have hB := Lib.hid (fun w' (k : Kp (fun _ => False) w w') => hb.kp0 k (fun _ _ h => h))
  clear hI hr hb hcm
  generalize bd.length = n at *
  generalize hnb : l.length = nb at *
  have HNB := Lib.hid hnb
  clear hnb
  generalize hgn : gbd.length = gn at *
  clear hgn
  clear g1 g2 g3
  go_enter Try.func6, Try.ntmps6
  go_upto_region 12 with (first | (go_at_call 18; (with_reducible refine (AW.out _).mono ?_); rintro e w1 ⟨rfl, k1⟩; have ha1 := k1.at (At.new w [.int .i64 ty, .int .i64 se, .int .i64 bo, .int .i64 sq, .int .i64 ac, .slice a n c] 24) (fun h => h); have x0 := (ha1.cell 0).trans (show _ = some (.int .i64 ty) from rfl); have x1 := (ha1.cell 1).trans (show _ = some (.int .i64 se) from rfl); have x2 := (ha1.cell 2).trans (show _ = some (.int .i64 bo) from rfl); have x3 := (ha1.cell 3).trans (show _ = some (.int .i64 sq) from rfl); have x4 := (ha1.cell 4).trans (show _ = some (.int .i64 ac) from rfl); have x5 := (ha1.cell 5).trans (show _ = some (.slice a n c) from rfl); have K1 := Lib.hid (And.intro (((Kp.refl (fun _ => False) w).alloc _).trans k1) ha1); clear ha1 k1) | (go_at_call 11; (with_reducible refine (CP.out _).mono ?_); rintro e w2 ⟨rfl, k2⟩; have ha2 := k2.at K1.out.2 (fun h => h); have y0 := (ha2.cell 0).trans (show _ = some (.int .i64 ty) from rfl); have y1 := (ha2.cell 1).trans (show _ = some (.int .i64 se) from rfl); have y2 := (ha2.cell 2).trans (show _ = some (.int .i64 bo) from rfl); have y3 := (ha2.cell 3).trans (show _ = some (.int .i64 sq) from rfl); have y4 := (ha2.cell 4).trans (show _ = some (.int .i64 ac) from rfl); have y5 := (ha2.cell 5).trans (show _ = some (.slice a n c) from rfl); have K2 := Lib.hid (And.intro (K1.out.1.trans k2) ha2); clear ha2 k2) | (go_at_call 14; (with_reducible refine (CC.out _).mono ?_); rintro e w3 ⟨rfl, k3⟩; have ha3 := k3.at K2.out.2 (fun h => h); have z0 := (ha3.cell 0).trans (show _ = some (.int .i64 ty) from rfl); have z1 := (ha3.cell 1).trans (show _ = some (.int .i64 se) from rfl); have z2 := (ha3.cell 2).trans (show _ = some (.int .i64 bo) from rfl); have z3 := (ha3.cell 3).trans (show _ = some (.int .i64 sq) from rfl); have z4 := (ha3.cell 4).trans (show _ = some (.int .i64 ac) from rfl); have z5 := (ha3.cell 5).trans (show _ = some (.slice a n c) from rfl); have K3 := Lib.hid (And.intro (K2.out.1.trans k3) (And.intro ha3 k3)); clear ha3 k3))
  have KF := Lib.hid K3.out.1
  go_upto_region 15 with (go_at_call 19; (with_reducible refine (CRB.out _ ?_).mono ?_); exact hB.out _ KF.out; rintro e w7 ⟨A7, c7, rfl, h7, k7⟩; have HR7 := Lib.hid (And.intro h7 k7); clear h7 k7)
  refine wp_world (fun wx => At wx w7.heap.size [.int .i64 gt, .int .i64 gs, .int .i64 gb, .int .i64 gq, .int .i64 ga, .slice A7 gn c7] ∧ Kp (fun _ => False) w7 wx) ⟨At.new w7 [.int .i64 gt, .int .i64 gs, .int .i64 gb, .int .i64 gq, .int .i64 ga, .slice A7 gn c7] _, (Kp.refl _ w7).alloc _⟩ ?_
  rintro w8 ⟨ha8, k8⟩
  have q0 := (ha8.cell 0).trans (show _ = some (.int .i64 gt) from rfl); have q1 := (ha8.cell 1).trans (show _ = some (.int .i64 gs) from rfl); have q2 := (ha8.cell 2).trans (show _ = some (.int .i64 gb) from rfl); have q3 := (ha8.cell 3).trans (show _ = some (.int .i64 gq) from rfl); have q4 := (ha8.cell 4).trans (show _ = some (.int .i64 ga) from rfl); have q5 := (ha8.cell 5).trans (show _ = some (.slice A7 gn c7) from rfl)
  have K8 := Lib.hid k8
  clear ha8 k8
  go_wp2_with (first | (go_at_call 11; (with_reducible refine (CPB.out _ _ _ ?_).mono ?_); exact HR7.out.1.kp0 K8.out (fun _ _ h => h); rintro e w9 ⟨u, rfl, hu, _, k9⟩; obtain ⟨ua, uc, rfl, hur, _⟩ := hu.form; rw [HNB.out]; have K9 := Lib.hid (And.intro hur (KF.out.trans ((HR7.out.2.trans K8.out).trans k9))); clear hu hur k9) | (go_at_call 13; (with_reducible refine (CSB.out _ _ _ K9.out.1 ?_).mono ?_); exact hB.out _ K9.out.2; rintro e w10 ⟨rfl, rfl⟩))
  go_ret
  exact ⟨rfl, K9.out.2.below (fun _ _ h => h)⟩
set_option maxHeartbeats 2000000 in
set_option maxRecDepth 20000 in
theorem back_xx (f : Fr) (a : Option Addr) (c : Nat) (b : Option Addr) (cap : Nat) (l : List Int) (w : World) (hI : frI f) (hr : RdB w a f.bd) (hc : f.bd.length ≤ c) (hb : RdB w b l) (hcap : l.length ≤ cap) (hcm : cap ≤ maxLen) (hl : f.bd.length ≤ 2000) (hl2 : l.length ≤ 2000) (he : errF f ≠ 0) (hg : errR l ≠ 0) :
    Calls Try.prog 6 #[.agg (frA f a c), .slice b l.length cap] w fun e w' => e = .returned (.bool true) ∧ Below w.heap.size w w' := by
  have AW := Lib.hid (fun w' => awake_any w')
  have CC := Lib.hid (fun w' => fcheck_any f a c w' (by omega) hI.1 hI.2.1 hI.2.2.1 hI.2.2.2)
  have CP := Lib.hid (fun w' => fput_bad f a c w' hI (by omega) he)
  have e1 : (errF f == 0) = false := by simpa using he
  have e2 : (errF f != 0) = true := by simpa using he
  generalize errF f = er at *
  have CRB := Lib.hid (fun w' (h : RdB w' b l) => fread_ill l hg b cap w' h (by omega) hcap hcm)
  have CSZ := Lib.hid (fun w' A c9 (h : RdB w' A zF.bd) => samef_any zF zF A none c9 0 w' h (RdB.nil _ _))
  rw [show sameF zF zF = true from (sameF_iff _ _).2 rfl] at CSZ
  simp only [show ∀ A c9, frA zF A c9 = #[.int .i64 0, .int .i64 0, .int .i64 0, .int .i64 0, .int .i64 0, .slice A 0 c9] from fun _ _ => rfl] at CSZ CRB
  have d1 : (errR l == 0) = false := by simpa using hg
  have d2 : (errR l != 0) = true := by simpa using hg
  generalize errR l = el at *
  obtain ⟨ty, se, bo, sq, ac, bd⟩ := f
  dsimp only [frA] at *
  have hR := Lib.hid (fun w' (k : Kp (fun _ => False) w w') => hr.kp0 k (fun _ _ h => h))
  have hB := Lib.hid (fun w' (k : Kp (fun _ => False) w w') => hb.kp0 k (fun _ _ h => h))
  clear hI hr hb hcm
  generalize bd.length = n at *
  generalize hnb : l.length = nb at *
  have HNB := Lib.hid hnb
  clear hnb
  go_enter Try.func6, Try.ntmps6
  go_upto_region 12 with (first | (go_at_call 18; (with_reducible refine (AW.out _).mono ?_); rintro e w1 ⟨rfl, k1⟩; have ha1 := k1.at (At.new w [.int .i64 ty, .int .i64 se, .int .i64 bo, .int .i64 sq, .int .i64 ac, .slice a n c] 24) (fun h => h); have x0 := (ha1.cell 0).trans (show _ = some (.int .i64 ty) from rfl); have x1 := (ha1.cell 1).trans (show _ = some (.int .i64 se) from rfl); have x2 := (ha1.cell 2).trans (show _ = some (.int .i64 bo) from rfl); have x3 := (ha1.cell 3).trans (show _ = some (.int .i64 sq) from rfl); have x4 := (ha1.cell 4).trans (show _ = some (.int .i64 ac) from rfl); have x5 := (ha1.cell 5).trans (show _ = some (.slice a n c) from rfl); have K1 := Lib.hid (And.intro (((Kp.refl (fun _ => False) w).alloc _).trans k1) ha1); clear ha1 k1) | (go_at_call 11; (with_reducible refine (CP.out _).mono ?_); rintro e w2 ⟨rfl, k2⟩; have ha2 := k2.at K1.out.2 (fun h => h); have y0 := (ha2.cell 0).trans (show _ = some (.int .i64 ty) from rfl); have y1 := (ha2.cell 1).trans (show _ = some (.int .i64 se) from rfl); have y2 := (ha2.cell 2).trans (show _ = some (.int .i64 bo) from rfl); have y3 := (ha2.cell 3).trans (show _ = some (.int .i64 sq) from rfl); have y4 := (ha2.cell 4).trans (show _ = some (.int .i64 ac) from rfl); have y5 := (ha2.cell 5).trans (show _ = some (.slice a n c) from rfl); have K2 := Lib.hid (And.intro (K1.out.1.trans k2) ha2); clear ha2 k2) | (go_at_call 14; (with_reducible refine (CC.out _).mono ?_); rintro e w3 ⟨rfl, k3⟩; have ha3 := k3.at K2.out.2 (fun h => h); have z0 := (ha3.cell 0).trans (show _ = some (.int .i64 ty) from rfl); have z1 := (ha3.cell 1).trans (show _ = some (.int .i64 se) from rfl); have z2 := (ha3.cell 2).trans (show _ = some (.int .i64 bo) from rfl); have z3 := (ha3.cell 3).trans (show _ = some (.int .i64 sq) from rfl); have z4 := (ha3.cell 4).trans (show _ = some (.int .i64 ac) from rfl); have z5 := (ha3.cell 5).trans (show _ = some (.slice a n c) from rfl); have K3 := Lib.hid (And.intro (K2.out.1.trans k3) (And.intro ha3 k3)); clear ha3 k3))
  have KF := Lib.hid K3.out.1
  go_upto_region 14 with (go_at_call 19; (with_reducible refine (CRB.out _ ?_).mono ?_); exact hB.out _ KF.out; rintro e w7 ⟨A7, c7, rfl, h7, k7⟩; have HR7 := Lib.hid (And.intro h7 k7); clear h7 k7)
  refine wp_world (fun wx => At wx w7.heap.size [.int .i64 0, .int .i64 0, .int .i64 0, .int .i64 0, .int .i64 0, .slice A7 0 c7] ∧ Kp (fun _ => False) w7 wx) ⟨At.new w7 [.int .i64 0, .int .i64 0, .int .i64 0, .int .i64 0, .int .i64 0, .slice A7 0 c7] _, (Kp.refl _ w7).alloc _⟩ ?_
  rintro w8 ⟨ha8, k8⟩
  have q0 := (ha8.cell 0).trans (show _ = some (.int .i64 0) from rfl); have q1 := (ha8.cell 1).trans (show _ = some (.int .i64 0) from rfl); have q2 := (ha8.cell 2).trans (show _ = some (.int .i64 0) from rfl); have q3 := (ha8.cell 3).trans (show _ = some (.int .i64 0) from rfl); have q4 := (ha8.cell 4).trans (show _ = some (.int .i64 0) from rfl); have q5 := (ha8.cell 5).trans (show _ = some (.slice A7 0 c7) from rfl)
  have K8 := Lib.hid k8
  clear ha8 k8
  go_wp2_with (go_at_call 21; (with_reducible refine (CSZ.out _ _ _ ?_).mono ?_); exact HR7.out.1.kp0 K8.out (fun _ _ h => h); rintro e w9 ⟨rfl, k9⟩)
  go_ret
  exact ⟨rfl, (KF.out.trans ((HR7.out.2.trans K8.out).trans k9)).below (fun _ _ h => h)⟩
set_option maxRecDepth 20000 in
theorem back_long (f : Fr) (a : Option Addr) (c : Nat) (b : Option Addr) (nb cap : Nat) (w : World) (hl : 2000 < f.bd.length ∨ 2000 < nb) :
    Calls Try.prog 6 #[.agg (frA f a c), .slice b nb cap] w fun e w' => e = .returned (.bool true) ∧ Below w.heap.size w w' := by
  have AW := Lib.hid (fun w' => awake_any w')
  obtain ⟨ty, se, bo, sq, ac, bd⟩ := f
  dsimp only [frA] at *
  generalize bd.length = n at *
  rcases hl with hl | hl
  · have h1 : (2000 : Int) < (n : Int) := by omega
    go_enter Try.func6, Try.ntmps6
    go_wp2_with (go_at_call 18; (with_reducible refine (AW.out _).mono ?_); rintro e w1 ⟨rfl, k1⟩; have ha1 := k1.at (At.new w [.int .i64 ty, .int .i64 se, .int .i64 bo, .int .i64 sq, .int .i64 ac, .slice a n c] 24) (fun h => h); have x0 := (ha1.cell 0).trans (show _ = some (.int .i64 ty) from rfl); have x1 := (ha1.cell 1).trans (show _ = some (.int .i64 se) from rfl); have x2 := (ha1.cell 2).trans (show _ = some (.int .i64 bo) from rfl); have x3 := (ha1.cell 3).trans (show _ = some (.int .i64 sq) from rfl); have x4 := (ha1.cell 4).trans (show _ = some (.int .i64 ac) from rfl); have x5 := (ha1.cell 5).trans (show _ = some (.slice a n c) from rfl); have K1 := Lib.hid (And.intro (((Kp.refl (fun _ => False) w).alloc _).trans k1) ha1); clear ha1 k1)
    go_ret
    exact ⟨rfl, K1.out.1.below (fun _ _ h => h)⟩
  · have h1 : (2000 : Int) < (nb : Int) := by omega
    by_cases h2 : (2000 : Int) < (n : Int)
    · go_enter Try.func6, Try.ntmps6
      go_wp2_with (go_at_call 18; (with_reducible refine (AW.out _).mono ?_); rintro e w1 ⟨rfl, k1⟩; have ha1 := k1.at (At.new w [.int .i64 ty, .int .i64 se, .int .i64 bo, .int .i64 sq, .int .i64 ac, .slice a n c] 24) (fun h => h); have x0 := (ha1.cell 0).trans (show _ = some (.int .i64 ty) from rfl); have x1 := (ha1.cell 1).trans (show _ = some (.int .i64 se) from rfl); have x2 := (ha1.cell 2).trans (show _ = some (.int .i64 bo) from rfl); have x3 := (ha1.cell 3).trans (show _ = some (.int .i64 sq) from rfl); have x4 := (ha1.cell 4).trans (show _ = some (.int .i64 ac) from rfl); have x5 := (ha1.cell 5).trans (show _ = some (.slice a n c) from rfl); have K1 := Lib.hid (And.intro (((Kp.refl (fun _ => False) w).alloc _).trans k1) ha1); clear ha1 k1)
      go_ret
      exact ⟨rfl, K1.out.1.below (fun _ _ h => h)⟩
    · go_enter Try.func6, Try.ntmps6
      go_wp2_with (go_at_call 18; (with_reducible refine (AW.out _).mono ?_); rintro e w1 ⟨rfl, k1⟩; have ha1 := k1.at (At.new w [.int .i64 ty, .int .i64 se, .int .i64 bo, .int .i64 sq, .int .i64 ac, .slice a n c] 24) (fun h => h); have x0 := (ha1.cell 0).trans (show _ = some (.int .i64 ty) from rfl); have x1 := (ha1.cell 1).trans (show _ = some (.int .i64 se) from rfl); have x2 := (ha1.cell 2).trans (show _ = some (.int .i64 bo) from rfl); have x3 := (ha1.cell 3).trans (show _ = some (.int .i64 sq) from rfl); have x4 := (ha1.cell 4).trans (show _ = some (.int .i64 ac) from rfl); have x5 := (ha1.cell 5).trans (show _ = some (.slice a n c) from rfl); have K1 := Lib.hid (And.intro (((Kp.refl (fun _ => False) w).alloc _).trans k1) ha1); clear ha1 k1)
      go_ret
      exact ⟨rfl, K1.out.1.below (fun _ _ h => h)⟩
theorem frameBack_walk (c0 : Array Value) (a1 : Option Addr) (len1 cap1 : Nat) (w : World) (r0 : Rdg Try.prog w 24 (Value.agg c0).cells.toList) (r1 : Rdg Try.prog w 22 [.slice a1 len1 cap1]) :
    Calls Try.prog 6 #[.agg c0, .slice a1 len1 cap1] w fun e w' => e = .returned (.bool true) ∧ Below w.heap.size w w' := by
  obtain ⟨f, a, c, rfl, hI, _, hr, hc, hm⟩ := open_frame r0
  obtain ⟨_, l, _, e0, h, h1, h2⟩ := r1.bytes Try.underlying22 Try.underlying5 (by kernel_rfl) (by kernel_rfl)
  simp only [List.cons.injEq, Value.slice.injEq, and_true] at e0
  obtain ⟨rfl, rfl, rfl⟩ := e0
  have h3 : cap1 ≤ maxLen := by unfold maxLen; omega
  by_cases hl : f.bd.length ≤ 2000 ∧ l.length ≤ 2000
  · by_cases he : errF f = 0
    · by_cases hg : errR l = 0
      · exact back_oo f a c a1 cap1 l w hI hr hc h h1 h3 hl.1 hl.2 he hg
      · exact back_ox f a c a1 cap1 l w hI hr hc h h1 h3 hl.1 hl.2 he hg
    · by_cases hg : errR l = 0
      · exact back_xo f a c a1 cap1 l w hI hr hc h h1 h3 hl.1 hl.2 he hg
      · exact back_xx f a c a1 cap1 l w hI hr hc h h1 h3 hl.1 hl.2 he hg
  · exact back_long f a c a1 l.length cap1 w (by omega)
end Go.Proofs.Ytjjoancnkjlaeaa
