/- FramePuts. (Written by wip/frputs.py.) -/
import Derived.Test.YtjjoancnkjlaeaaFrmX
import Derived.Test.YtjjoancnkjlaeaaOver
import Derived.Deep.RegionHeld3
namespace Go.Proofs.Ytjjoancnkjlaeaa
open Go.RowKit
set_option linter.unusedVariables false
set_option linter.unusedSimpArgs false
set_option maxHeartbeats 1000000 in
set_option maxRecDepth 20000 in
theorem puts_main (f : Fr) (a : Option Addr) (c : Nat) (w : World) (hI : frI f) (hr : RdB w a f.bd) (hc : f.bd.length ≤ c) (hl : f.bd.length ≤ 2000) :
    Calls Try.prog 3 #[.agg (frA f a c)] w fun e w' => e = .returned (.bool true) ∧ Below w.heap.size w w' := by
  have CP := Lib.hid (fun w' (g : Nat) (h : RdB w' (some ⟨g, 0, none⟩) f.bd) => fput_any f (some ⟨g, 0, none⟩) (f.bd.length + 3) w' hI h (by omega) (by omega))
  have CQ := Lib.hid (fun w' (h : RdB w' a f.bd) => rputF_any f a c w' h hc (by omega))
  have CC := Lib.hid (fun w' (g : Nat) => fcheck_any f (some ⟨g, 0, none⟩) (f.bd.length + 3) w' (by omega) hI.1 hI.2.1 hI.2.2.1 hI.2.2.2)
  have CD := Lib.hid (fun w' => rcheckF_any f a c w' (by omega))
  have CL := Lib.hid (fun w' (h : RdB w' a f.bd) => lent_any a c f.bd w' h (by omega))
  have CK := Lib.hid (fun w' (g : Nat) h (h' : RdB w' a f.bd) => kept_any g a c f.bd w' h h' (by omega))
  have CS := Lib.hid (fun w' x y p q (h : RdB w' x (putF f)) (h' : RdB w' y (putF f)) => same_any x y p q (putF f) (putF f) w' h h')
  rw [decide_eq_true (rfl : putF f = putF f)] at CS
  generalize putF f = L at *
  generalize errF f = er at *
  obtain ⟨ty, se, bo, sq, ac, bd⟩ := f
  dsimp only [frA] at *
  have HB := Lib.hid hr.bd
  have hR := Lib.hid (fun w' (k : Kp (fun _ => False) w w') => hr.kp0 k (fun _ _ h => h))
  clear hr hI
  obtain ⟨n, hn⟩ : ∃ n, Hid (bd.length = n) := ⟨_, rfl⟩
  rw [hn.out] at hc hl CL CK CP CQ CC CD ⊢
  have HB1 := Lib.hid (At.new w [.int .i64 ty, .int .i64 se, .int .i64 bo, .int .i64 sq, .int .i64 ac, .slice a n c] 24)
  have HB3 : Hid (At ((w.alloc (.cells #[.int .i64 ty, .int .i64 se, .int .i64 bo, .int .i64 sq, .int .i64 ac, .slice a n c] 24)).alloc (.cells #[.int .i64 ty, .int .i64 se, .int .i64 bo, .int .i64 sq, .int .i64 ac, .slice a n c] 24)) (w.heap.size + 1) [.int .i64 ty, .int .i64 se, .int .i64 bo, .int .i64 sq, .int .i64 ac, .slice a n c]) := by show At _ _ _; have := At.new (w.alloc (.cells #[.int .i64 ty, .int .i64 se, .int .i64 bo, .int .i64 sq, .int .i64 ac, .slice a n c] 24)) [.int .i64 ty, .int .i64 se, .int .i64 bo, .int .i64 sq, .int .i64 ac, .slice a n c] 24; simpa using this
  have K2 := Lib.hid (((Kp.refl (fun _ => False) w).alloc (.cells #[.int .i64 ty, .int .i64 se, .int .i64 bo, .int .i64 sq, .int .i64 ac, .slice a n c] 24)).alloc (.cells #[.int .i64 ty, .int .i64 se, .int .i64 bo, .int .i64 sq, .int .i64 ac, .slice a n c] 24))
  go_enter Try.func3, Try.ntmps3
  go_upto_region 5 with (go_at_call 10; refine (CL.out _ (hR.out _ K2.out)).mono ?_; rintro e wl ⟨rfl, hgl, kl⟩; have ha1 := kl.at (HB1.out.alloc (.cells #[.int .i64 ty, .int .i64 se, .int .i64 bo, .int .i64 sq, .int .i64 ac, .slice a n c] 24)) (fun h => h); have ha3 := kl.at HB3.out (fun h => h); have x0 := (ha1.cell 0).trans (show _ = some (.int .i64 ty) from rfl); have x1 := (ha1.cell 1).trans (show _ = some (.int .i64 se) from rfl); have x2 := (ha1.cell 2).trans (show _ = some (.int .i64 bo) from rfl); have x3 := (ha1.cell 3).trans (show _ = some (.int .i64 sq) from rfl); have x4 := (ha1.cell 4).trans (show _ = some (.int .i64 ac) from rfl); have x5 := (ha1.cell 5).trans (show _ = some (.slice a n c) from rfl); have y0 := (ha3.cell 0).trans (show _ = some (.int .i64 ty) from rfl); have y1 := (ha3.cell 1).trans (show _ = some (.int .i64 se) from rfl); have y2 := (ha3.cell 2).trans (show _ = some (.int .i64 bo) from rfl); have y3 := (ha3.cell 3).trans (show _ = some (.int .i64 sq) from rfl); have y4 := (ha3.cell 4).trans (show _ = some (.int .i64 ac) from rfl); have y5 := (ha3.cell 5).trans (show _ = some (.slice a n c) from rfl); have hf1 := fun i => ha1.frozen i; have hf3 := fun i => ha3.frozen i; have HK := Lib.hid (And.intro ha1 (And.intro ha3 (And.intro hgl (K2.out.trans kl)))); clear ha1 ha3 hgl kl)
  refine wp_world (fun w5 => At w5 w.heap.size [.int .i64 ty, .int .i64 se, .int .i64 bo, .int .i64 sq, .int .i64 ac, .slice a n c] ∧ At w5 (w.heap.size + 1) [.int .i64 ty, .int .i64 se, .int .i64 bo, .int .i64 sq, .int .i64 ac, .slice (some ⟨w.heap.size + 2, 0, none⟩) n (n + 3)] ∧ At w5 (w.heap.size + 2) ((bd ++ marks bd.length).map (Value.int .u8)) ∧ Kp (fun _ => False) w w5) ⟨?_, ?_, ?_, ?_⟩ ?_
  · exact HK.out.1.setOther (by simp) _
  · exact HK.out.2.1.set 5 _
  · have h := HK.out.2.2.1
    rw [show ((w.alloc (.cells #[.int .i64 ty, .int .i64 se, .int .i64 bo, .int .i64 sq, .int .i64 ac, .slice a n c] 24)).alloc (.cells #[.int .i64 ty, .int .i64 se, .int .i64 bo, .int .i64 sq, .int .i64 ac, .slice a n c] 24)).heap.size = w.heap.size + 2 by simp] at h
    rw [hn.out]
    exact h.setOther (a := ⟨w.heap.size + 1, 5, none⟩) (by simp) _
  · exact HK.out.2.2.2.setCell (fun h => absurd h (by dsimp only; omega)) _
  clear x0 y0 x1 y1 x2 y2 x3 y3 x4 y4 x5 y5 hf1 hf3 HK HB1 HB3 K2 CL
  rintro w5 ⟨ha1, ha3, hgl, k5⟩
  have x0 := (ha1.cell 0).trans (show _ = some (.int .i64 ty) from rfl)
  have x1 := (ha1.cell 1).trans (show _ = some (.int .i64 se) from rfl)
  have x2 := (ha1.cell 2).trans (show _ = some (.int .i64 bo) from rfl)
  have x3 := (ha1.cell 3).trans (show _ = some (.int .i64 sq) from rfl)
  have x4 := (ha1.cell 4).trans (show _ = some (.int .i64 ac) from rfl)
  have x5 := (ha1.cell 5).trans (show _ = some (.slice a n c) from rfl)
  have y0 := (ha3.cell 0).trans (show _ = some (.int .i64 ty) from rfl)
  have y1 := (ha3.cell 1).trans (show _ = some (.int .i64 se) from rfl)
  have y2 := (ha3.cell 2).trans (show _ = some (.int .i64 bo) from rfl)
  have y3 := (ha3.cell 3).trans (show _ = some (.int .i64 sq) from rfl)
  have y4 := (ha3.cell 4).trans (show _ = some (.int .i64 ac) from rfl)
  have y5 := (ha3.cell 5).trans (show _ = some (.slice (some ⟨w.heap.size + 2, 0, none⟩) n (n + 3)) from rfl)
  have H5 := Lib.hid (And.intro ha1 (And.intro ha3 (And.intro hgl k5)))
  have hrl : Hid (∀ w', Kp (fun _ => False) w5 w' → RdB w' (some ⟨w.heap.size + 2, 0, none⟩) bd) := fun w' k => (RdB.lent' hgl HB.out (by rw [hn.out]; omega)).kp0 k (fun _ _ h => h)
  clear ha1 ha3 hgl k5
  go_upto_region 7 with (first | (go_at_call 11; refine (CP.out _ _ (hrl.out _ (Kp.refl _ _))).mono ?_; rintro e w6 ⟨v, rfl, hv, hgv, k6⟩; obtain ⟨va, vc, rfl, hvr, _⟩ := hv.form; have ha1 := k6.at H5.out.1 (fun h => h); have x0 := (ha1.cell 0).trans (show _ = some (.int .i64 ty) from rfl); have x1 := (ha1.cell 1).trans (show _ = some (.int .i64 se) from rfl); have x2 := (ha1.cell 2).trans (show _ = some (.int .i64 bo) from rfl); have x3 := (ha1.cell 3).trans (show _ = some (.int .i64 sq) from rfl); have x4 := (ha1.cell 4).trans (show _ = some (.int .i64 ac) from rfl); have x5 := (ha1.cell 5).trans (show _ = some (.slice a n c) from rfl); have HV := Lib.hid (And.intro hv (And.intro hgv (And.intro hvr k6))); clear hv hgv hvr k6 ha1) | (go_at_call 12; refine (CQ.out _ (hR.out _ (H5.out.2.2.2.trans HV.out.2.2.2))).mono ?_; rintro e w7 ⟨u, rfl, hu, hgu, k7⟩; obtain ⟨ua, uc, rfl, hur, _⟩ := hu.form; have HU := Lib.hid (And.intro hu (And.intro hgu (And.intro hur k7))); clear hu hgu hur k7))
  have KA := Lib.hid (HV.out.2.2.2.trans HU.out.2.2.2)
  have ha1 := (KA.out).at H5.out.1 (fun h => h)
  have ha3 := (KA.out).at H5.out.2.1 (fun h => h)
  have hS : Hid (∀ w', Kp (fun _ => False) w7 w' → (Kp (fun _ => False) w7 w' ∧ w'.cell? ⟨w.heap.size, 0, none⟩ = some (.int .i64 ty) ∧ w'.cell? ⟨w.heap.size, 1, none⟩ = some (.int .i64 se) ∧ w'.cell? ⟨w.heap.size, 2, none⟩ = some (.int .i64 bo) ∧ w'.cell? ⟨w.heap.size, 3, none⟩ = some (.int .i64 sq) ∧ w'.cell? ⟨w.heap.size, 4, none⟩ = some (.int .i64 ac) ∧ w'.cell? ⟨w.heap.size, 5, none⟩ = some (.slice a n c) ∧ w'.cell? ⟨w.heap.size + 1, 0, none⟩ = some (.int .i64 ty) ∧ w'.cell? ⟨w.heap.size + 1, 1, none⟩ = some (.int .i64 se) ∧ w'.cell? ⟨w.heap.size + 1, 2, none⟩ = some (.int .i64 bo) ∧ w'.cell? ⟨w.heap.size + 1, 3, none⟩ = some (.int .i64 sq) ∧ w'.cell? ⟨w.heap.size + 1, 4, none⟩ = some (.int .i64 ac) ∧ w'.cell? ⟨w.heap.size + 1, 5, none⟩ = some (.slice (some ⟨w.heap.size + 2, 0, none⟩) n (n + 3)))) := fun w' k => ⟨k, (k.at ha1 (fun h => h)).cell 0, (k.at ha1 (fun h => h)).cell 1, (k.at ha1 (fun h => h)).cell 2, (k.at ha1 (fun h => h)).cell 3, (k.at ha1 (fun h => h)).cell 4, (k.at ha1 (fun h => h)).cell 5, (k.at ha3 (fun h => h)).cell 0, (k.at ha3 (fun h => h)).cell 1, (k.at ha3 (fun h => h)).cell 2, (k.at ha3 (fun h => h)).cell 3, (k.at ha3 (fun h => h)).cell 4, (k.at ha3 (fun h => h)).cell 5⟩
  have K0 : Kp (fun _ => False) w7 w7.drew := (Kp.refl _ w7).drew
  have RV : Hid (∀ w', Kp (fun _ => False) w7 w' → RdB w' va L) := fun w' k => HV.out.2.2.1.kp0 (HU.out.2.2.2.trans k) (fun _ _ h => h)
  have RU : Hid (∀ w', Kp (fun _ => False) w7 w' → RdB w' ua L) := fun w' k => HU.out.2.2.1.kp0 k (fun _ _ h => h)
  have ee : (er == er) = true := by simp
  have HA13 := Lib.hid (And.intro ha1 ha3)
  clear ha1 ha3 x0 y0 x1 y1 x2 y2 x3 y3 x4 y4 x5 y5
  go_region_held3 (fun w' => Kp (fun _ => False) w7 w' ∧ w'.cell? ⟨w.heap.size, 0, none⟩ = some (.int .i64 ty) ∧ w'.cell? ⟨w.heap.size, 1, none⟩ = some (.int .i64 se) ∧ w'.cell? ⟨w.heap.size, 2, none⟩ = some (.int .i64 bo) ∧ w'.cell? ⟨w.heap.size, 3, none⟩ = some (.int .i64 sq) ∧ w'.cell? ⟨w.heap.size, 4, none⟩ = some (.int .i64 ac) ∧ w'.cell? ⟨w.heap.size, 5, none⟩ = some (.slice a n c) ∧ w'.cell? ⟨w.heap.size + 1, 0, none⟩ = some (.int .i64 ty) ∧ w'.cell? ⟨w.heap.size + 1, 1, none⟩ = some (.int .i64 se) ∧ w'.cell? ⟨w.heap.size + 1, 2, none⟩ = some (.int .i64 bo) ∧ w'.cell? ⟨w.heap.size + 1, 3, none⟩ = some (.int .i64 sq) ∧ w'.cell? ⟨w.heap.size + 1, 4, none⟩ = some (.int .i64 ac) ∧ w'.cell? ⟨w.heap.size + 1, 5, none⟩ = some (.slice (some ⟨w.heap.size + 2, 0, none⟩) n (n + 3))) (first | assumption | (refine hS.out _ ?_; first | exact K0 | exact kk8 | exact kk9)) (first | (go_at_call 13; refine (CS.out _ _ _ _ _ (RV.out _ (by go_split_ands; assumption)) (RU.out _ (by go_split_ands; assumption))).mono ?_; rintro e w8 ⟨rfl, rfl⟩) | (go_at_call 14; refine (CC.out _ _).mono ?_; rintro e w8 ⟨rfl, k8⟩; have kk8 := Kp.trans (by go_split_ands; assumption) k8) | (go_at_call 15; refine (CD.out _).mono ?_; rintro e w9 ⟨rfl, k9⟩; have kk9 := Kp.trans (by go_split_ands; assumption) k9))
  have K9 := Lib.hid (KA.out.trans kk9)
  have OV := Lib.hid (over_own (HV.out.1.kp (HU.out.2.2.2.trans kk9) (fun _ _ h => h)))
  have AW := Lib.hid (fun w' => awake_any w')
  have lt1 : Hid (w.heap.size < w5.heap.size) := H5.out.1.lt
  have lt3 : Hid (w.heap.size + 1 < w5.heap.size) := H5.out.2.1.lt
  have lt2 : Hid (w.heap.size + 2 < w5.heap.size) := H5.out.2.2.1.lt
  have HB9 : Hid (At w9 (w.heap.size + 2) ((bd ++ marks n).map (Value.int .u8))) := by have h := K9.out.at H5.out.2.2.1 (fun h => h); rw [hn.out] at h; exact h
  have HC9 : Hid (At w9 w.heap.size [.int .i64 ty, .int .i64 se, .int .i64 bo, .int .i64 sq, .int .i64 ac, .slice a n c]) := K9.out.at H5.out.1 (fun h => h)
  have HD9 : Hid (At w9 (w.heap.size + 1) [.int .i64 ty, .int .i64 se, .int .i64 bo, .int .i64 sq, .int .i64 ac, .slice (some ⟨w.heap.size + 2, 0, none⟩) n (n + 3)]) := K9.out.at H5.out.2.1 (fun h => h)
  clear kk9 K0
  go_wp2_with (first | (go_at_call 16; refine OV.out.mono ?_; rintro e w10 ⟨rfl, k10⟩; have x5 := (k10.at HC9.out (fun e => by have := HV.out.2.1 _ e; have := lt1.out; omega)).cell 5; have y5 := (k10.at HD9.out (fun e => by have := HV.out.2.1 _ e; have := lt3.out; omega)).cell 5; have hg10 := Lib.hid (k10.at HB9.out (fun e => by have := HV.out.2.1 _ e; have := lt2.out; omega)); have kall := Lib.hid ((H5.out.2.2.2.trans K9.out).then k10 (fun i hi e => by have := HV.out.2.1 _ e; have := H5.out.2.2.2.size; omega)); clear k10) | (go_at_call 17; refine (CK.out _ _ hg10.out (hR.out _ kall.out)).mono ?_; rintro e w11 ⟨rfl, k11⟩) | (go_at_call 18; refine (AW.out _).mono ?_; rintro e w12 ⟨rfl, k12⟩))
  go_ret
  exact ⟨rfl, (kall.out.trans (k11.trans k12)).below (fun _ _ h => h)⟩
theorem framePuts_walk (c0 : Array Value) (w : World) (r0 : Rdg Try.prog w 24 (Value.agg c0).cells.toList) :
    Calls Try.prog 3 #[.agg c0] w fun e w' => e = .returned (.bool true) ∧ Below w.heap.size w w' := by
  obtain ⟨f, a, c, rfl, hI, _, hr, hc, hm⟩ := open_frame r0
  by_cases hl : f.bd.length ≤ 2000
  · exact puts_main f a c w hI hr hc hl
  · obtain ⟨ty, se, bo, sq, ac, bd⟩ := f
    dsimp only [frA] at *
    generalize bd.length = n at *
    have hn : (2000 : Int) < (n : Int) := by omega
    clear r0 hr hI
    go_enter Try.func3, Try.ntmps3
    go_wp2
    go_ret
    exact ⟨rfl, ((Kp.refl (fun _ => False) w).alloc _).below (fun _ _ h => h)⟩
end Go.Proofs.Ytjjoancnkjlaeaa
