/- The walk of ChunkEdits: it returns true, whatever comes in. No condition. (Written by wip/chkedits.py.) -/
import Derived.Test.YtlabkldpcbmjbaaChkD
import Derived.Test.YtlabkldpcbmjbaaChunkKnown
namespace Go.Proofs.Ytlabkldpcbmjbaa
open Go.RowKit
set_option linter.unusedVariables false
set_option linter.unusedSimpArgs false
theorem join_ex {w : World} {x y z : List Int} {a1 a3 : Option Addr} {n1 n3 c1 c3 : Nat} (h1 : RdB w a1 y) (h3 : RdB w a3 z) (e1 : n1 = y.length) (e3 : n3 = z.length) (hl : x.length + y.length + z.length ≤ 100000) (lA : List Int) (hlA : x ++ y ++ z = lA) (LA : Nat) (hLA : LA = lA.length) :
    ∀ w2 v2, OwnB w2 v2 x → (∀ g, v2.ownBlock = some g → w.heap.size ≤ g) → Kp (fun _ => False) w w2 → ∃ v3 w3 A c w4, (Builtin.append_ #[22, 22] 22 #[v2, .slice a1 n1 c1]).run Try.prog w2 = .ok v3 w3 ∧ (Builtin.append_ #[22, 22] 22 #[v3, .slice a3 n3 c3]).run Try.prog w3 = .ok (.slice A LA c) w4 ∧
      (∀ w', Kp (fun _ => False) w4 w' → Calls Try.prog 13 #[.slice A LA c] w' fun e w'' => ∃ A C, e = .returned (.slice A (chunks lA).length C) ∧ Rd w'' A (ints (lens (chunks lA))) ∧ Kp (fun _ => False) w' w'') ∧ Kp (fun _ => False) w w4 := by
  intro w2 v2 ho hg k
  subst hlA
  obtain ⟨v3, w3, A, c, w4, r3, r4, hr, h5, h6, k4⟩ := join3 (c1 := c1) (c3 := c3) ho hg k h1 h3 e1 e3 (by omega) LA hLA
  exact ⟨v3, w3, A, c, w4, r3, r4, fun w' kk => cut_n A c _ LA _ hLA rfl w' (hr.kp0 kk (fun _ _ h => h)) (by rw [hLA, List.length_append, List.length_append]; omega) h5 h6, k4⟩
theorem sameints_n (a b : Option Addr) (c c' n m : Nat) (l : List Nat) (w : World) (ha : Rd w a (ints l)) (hb : Rd w b (ints l)) (hn : n = l.length) (hm : m = l.length) (hl : n ≤ 1000000) :
    Calls Try.prog 16 #[.slice a n c, .slice b m c'] w fun e w' => e = .returned (.bool true) ∧ ∃ k, w' = w.drewN k := by
  subst hn; subst hm; exact sameints_eq a b c c' l w ha hb hl
theorem Rd.kpF {w w' : World} {a : Option Addr} {vs : List Value} (h : Rd w a vs) (k : Kp (fun _ => False) w w') : Rd w' a vs := h.kp k (fun _ _ h => h)
/-- What stands in a list of ints at a place. -/
theorem Rd.intAt {w : World} {a : Option Addr} {l : List Nat} (h : Rd w a (ints l)) {k : Nat} (hk : k < l.length) : ∃ b o, a = some ⟨b, o, none⟩ ∧ w.cell? ⟨b, o + k, none⟩ = some (.int .i64 (l.getD k 0 : Nat)) := by
  obtain ⟨b, o, rfl, hc⟩ := h k (by rw [ints_len]; exact hk)
  refine ⟨b, o, rfl, ?_⟩
  rw [hc]
  simp [ints, List.getD_eq_getElem?_getD, hk]
set_option maxHeartbeats 8000000 in
set_option maxRecDepth 20000 in
theorem edits_main (a0 a1 a2 a3 : Option Addr) (c0 c1 c2 c3 n0 n1 n2 n3 : Nat) (ah on ot be : List Int) (e0 : n0 = ah.length) (e1 : n1 = on.length) (e2 : n2 = ot.length) (e3 : n3 = be.length) (w : World)
    (h0 : RdB w a0 ah) (h1 : RdB w a1 on) (h2 : RdB w a2 ot) (h3 : RdB w a3 be) (b0 : n0 ≤ 4000) (b1 : n1 ≤ 1000) (b2 : n2 ≤ 1000) (b3 : n3 ≤ 4000) :
    Calls Try.prog 8 #[.slice a0 n0 c0, .slice a1 n1 c1, .slice a2 n2 c2, .slice a3 n3 c3] w fun e w' => e = .returned (.bool true) ∧ Below w.heap.size w w' := by
  have AW := Lib.hid (fun w' => awake_any w')
  obtain ⟨LA, hLA⟩ : ∃ LA, LA = (ah ++ on ++ be).length := ⟨_, rfl⟩
  obtain ⟨LB, hLB⟩ : ∃ LB, LB = (ah ++ ot ++ be).length := ⟨_, rfl⟩
  have bA : LA ≤ 9000 := by rw [hLA, List.length_append, List.length_append]; omega
  have bB : LB ≤ 9000 := by rw [hLB, List.length_append, List.length_append]; omega
  have CCO := Lib.hid (fun w' (k : Kp (fun _ => False) w w') => copy_own a0 n0 c0 ah e0 w' (h0.kp0 k (fun _ _ h => h)) (by omega))
  have J1 := Lib.hid (fun wb (k : Kp (fun _ => False) w wb) => join_ex (c1 := c1) (c3 := c3) (h1.kp0 k (fun _ _ h => h)) (h3.kp0 k (fun _ _ h => h)) e1 e3 (x := ah) (by omega) _ rfl LA hLA)
  have J2 := Lib.hid (fun wb (k : Kp (fun _ => False) w wb) => join_ex (c1 := c2) (c3 := c3) (h2.kp0 k (fun _ _ h => h)) (h3.kp0 k (fun _ _ h => h)) e2 e3 (x := ah) (by omega) _ rfl LB hLB)
  have EA := Lib.hid (fun i (hi : i < (chunks (ah ++ on ++ be)).length) (hu : upto (ah ++ on ++ be) (i + 1) < n0) => (by have hh := same_early ah (on ++ be) (ot ++ be) i (by rw [← List.append_assoc]; exact hi) (by rw [← List.append_assoc, ← e0]; exact hu); rw [← List.append_assoc, ← List.append_assoc] at hh; exact hh : i < (chunks (ah ++ ot ++ be)).length ∧ (lens (chunks (ah ++ ot ++ be))).getD i 0 = (lens (chunks (ah ++ on ++ be))).getD i 0))
  have ET := Lib.hid (fun i k hi hk he => tails_same (ah ++ on) (ah ++ ot) be i k hi hk he)
  have TA := Lib.hid (fun w' A c (h : Rd w' A (ints (lens (chunks (ah ++ on ++ be))))) => tails_any A _ c (chunks (ah ++ on ++ be)) LA n3 w' h rfl (by rw [chunks_join]; exact hLA) (by omega) (by omega) (by have := chunks_len (ah ++ on ++ be); omega))
  have TB := Lib.hid (fun w' A c (h : Rd w' A (ints (lens (chunks (ah ++ ot ++ be))))) => tails_any A _ c (chunks (ah ++ ot ++ be)) LB n3 w' h rfl (by rw [chunks_join]; exact hLB) (by omega) (by omega) (by have := chunks_len (ah ++ ot ++ be); omega))
  have US := Lib.hid (fun k => upto_succ (ah ++ on ++ be) k)
  have UL := Lib.hid (fun k => (by rw [hLA]; exact upto_le (ah ++ on ++ be) k : upto (ah ++ on ++ be) k ≤ LA))
  have u0 : upto (ah ++ on ++ be) 0 = 0 := by simp [upto]
  have hcA : (chunks (ah ++ on ++ be)).length ≤ LA + 1 := by rw [hLA]; exact chunks_len _
  have hcB : (chunks (ah ++ ot ++ be)).length ≤ LB + 1 := by rw [hLB]; exact chunks_len _
  have htA := tls_len n3 (chunks (ah ++ on ++ be))
  have htB := tls_len n3 (chunks (ah ++ ot ++ be))
  rw [← e3] at ET
  generalize upto (ah ++ on ++ be) = U at *
  generalize chunks (ah ++ on ++ be) = lsA at *
  generalize chunks (ah ++ ot ++ be) = lsB at *
  obtain ⟨NA, hNA⟩ : ∃ N, N = lsA.length := ⟨_, rfl⟩
  obtain ⟨NB, hNB⟩ : ∃ N, N = lsB.length := ⟨_, rfl⟩
  obtain ⟨tA, htA'⟩ : ∃ t, t = tls n3 lsA := ⟨_, rfl⟩
  obtain ⟨tB, htB'⟩ : ∃ t, t = tls n3 lsB := ⟨_, rfl⟩
  rw [← htA'] at ET TA htA
  rw [← htB'] at ET TB htB
  obtain ⟨P, hP⟩ : ∃ P, P = tA.length := ⟨_, rfl⟩
  obtain ⟨Q, hQ⟩ : ∃ Q, Q = tB.length := ⟨_, rfl⟩
  rw [← hP] at ET TA htA
  rw [← hQ] at ET TB htB
  rw [← hNA] at EA TA US J1 hcA htA
  rw [← hNB] at EA TB J2 hcB htB
  have HE := Lib.hid (And.intro hNA (And.intro hNB (And.intro hP (And.intro hQ u0))))
  clear hNA hNB hP hQ u0 htA' htB' e0 e1 e2 e3 h0 h1 h2 h3 hLA hLB
  have i0 : ¬ (4000 : Int) < (n0 : Int) := by omega
  have i1 : ¬ (1000 : Int) < (n1 : Int) := by omega
  have i2 : ¬ (1000 : Int) < (n2 : Int) := by omega
  have i3 : ¬ (4000 : Int) < (n3 : Int) := by omega
  go_enter Try.func8, Try.ntmps8
  go_wp2_with (first | (go_at_call 20; (with_reducible refine (AW.out _).mono ?_); rintro e w1 ⟨rfl, k1⟩; have K1 := Lib.hid k1; clear k1) | (go_at_call 29; (with_reducible refine (CCO.out _ K1.out).mono ?_); rintro e w2a ⟨v2, rfl, ho2, hg2, k2a⟩; obtain ⟨v2b, w2b, A2, c2, w2, hr2a, hr2b, hct2, k2⟩ := J1.out _ K1.out _ _ ho2 hg2 k2a; have HR2a := Lib.hid hr2a; have HR2b := Lib.hid hr2b; have CT2 := Lib.hid hct2; have K2 := Lib.hid (K1.out.trans k2); have KK2 := Lib.hid k2; clear ho2 hg2 k2a hr2a hr2b hct2 k2) | (at_builtin; refine wpList_append_run _ HR2a.out rfl rfl rfl rfl ?_) | (at_builtin; refine wpList_append_run _ HR2b.out rfl rfl rfl rfl ?_) | (go_at_call 29; (with_reducible refine (CCO.out _ K2.out).mono ?_); rintro e w3a ⟨v3, rfl, ho3, hg3, k3a⟩; obtain ⟨v3b, w3b, A3, c3, w3, hr3a, hr3b, hct3, k3⟩ := J2.out _ K2.out _ _ ho3 hg3 k3a; have HR3a := Lib.hid hr3a; have HR3b := Lib.hid hr3b; have CT3 := Lib.hid hct3; have K3 := Lib.hid (K2.out.trans k3); have KK3 := Lib.hid k3; clear ho3 hg3 k3a hr3a hr3b hct3 k3) | (at_builtin; refine wpList_append_run _ HR3a.out rfl rfl rfl rfl ?_) | (at_builtin; refine wpList_append_run _ HR3b.out rfl rfl rfl rfl ?_) | (go_at_call 13; (with_reducible refine (CT2.out _ KK3.out).mono ?_); rintro e w6 ⟨A6, C6, rfl, hr6, k6⟩; have H6 := Lib.hid (And.intro hr6 (K3.out.trans k6)); have K36 := Lib.hid k6; clear hr6 k6) | (go_at_call 13; (with_reducible refine (CT3.out _ K36.out).mono ?_); rintro e w7 ⟨A7, C7, rfl, hr7, k7⟩; have H7 := Lib.hid (And.intro hr7 k7); have K7 := Lib.hid (H6.out.2.trans k7); clear hr7 k7))
  go_loopw [15, 14] (fun iv sv wr => ∃ k : Nat, k ≤ NA ∧ iv = .int .i64 k ∧ sv = .int .i64 (U k : Nat) ∧ Kp (fun _ => False) w7 wr) (fun iv _ _ => NA - (intOf iv).toNat)
  case atStart => exact ⟨0, by omega, rfl, by rw [HE.out.2.2.2.2]; rfl, Kp.refl _ _⟩
  case round =>
    obtain ⟨k, hk, rfl, rfl, hkp⟩ := hrel
    have hul := UL.out k
    have KP := Lib.hid hkp
    clear hkp
    by_cases hlt : k < NA
    · have j1 : (k : Int) < NA := by omega
      obtain ⟨b6, o6, rfl, x6⟩ := H6.out.1.intAt (k := k) (by rw [lens_len, ← HE.out.1]; exact hlt)
      have x6' := (H7.out.2.trans KP.out).cell x6 (fun h => h)
      have hus := US.out k hlt
      have hul2 := UL.out (k + 1)
      have hea := EA.out k hlt
      generalize (lens lsA).getD k 0 = x at *
      by_cases hun : U (k + 1) < n0
      · obtain ⟨hkb, hxy⟩ := hea hun
        obtain ⟨b7, o7, rfl, x7⟩ := H7.out.1.intAt (k := k) (by rw [lens_len, ← HE.out.2.1]; exact hkb)
        have x7' := KP.out.cell x7 (fun h => h)
        rw [hxy] at x7'
        have HS := Lib.hid hus
        have hb : U k + x < n0 := by omega
        generalize hU1 : U (k + 1) = u' at *
        have HU := Lib.hid hU1
        clear hU1
        generalize U k = u at *
        have j2 : (u : Int) + (x : Int) < (n0 : Int) := by omega
        have j3 : ¬ (NB : Int) ≤ (k : Int) := by omega
        have j4 : decide ((NB : Int) ≤ (k : Int)) = false := decide_eq_false j3
        have j5 : decide (NB ≤ k) = false := decide_eq_false (by omega)
        clear x6 x7 hus hea hun hkb hxy
        go_wp2_with fail
        go_quiet (fail)
        go_wp2_with fail
        go_roundw
        case rel => exact ⟨k + 1, by omega, by go_num, by rw [HU.out, HS.out]; go_num, KP.out.drewN _⟩
        case measure => simp [intOf]; omega
      · generalize U (k + 1) = u' at *
        generalize U k = u at *
        have j2 : ¬ (u : Int) + (x : Int) < (n0 : Int) := by omega
        have j3 : decide ((u : Int) + (x : Int) < (n0 : Int)) = false := decide_eq_false j2
        have hux : u + x ≤ LA := by omega
        clear x6 hus hea hun
        go_wp2_with (first | (go_at_call 30; (with_reducible refine (TA.out _ _ _ (H6.out.1.kpF (H7.out.2.trans KP.out))).mono ?_); rintro e w8 ⟨A8, C8, rfl, hc8, hr8, k8⟩; have H8 := Lib.hid hr8; have K8 := Lib.hid k8; clear hr8 k8) |
          (go_at_call 30; (with_reducible refine (TB.out _ _ _ (H7.out.1.kpF (KP.out.trans K8.out))).mono ?_); rintro e w9 ⟨A9, C9, rfl, hc9, hr9, k9⟩; have H9 := Lib.hid hr9; have K9 := Lib.hid k9; have KT := Lib.hid (K7.out.trans (KP.out.trans (K8.out.trans k9))); clear hr9 k9))
        go_loopw [18] (fun iv wr => ∃ i : Nat, i ≤ P ∧ iv = .int .i64 i ∧ Kp (fun _ => False) w9 wr) (fun iv _ => P - (intOf iv).toNat)
        case atStart => exact ⟨0, by omega, rfl, Kp.refl _ _⟩
        case round =>
          obtain ⟨i, hi, rfl, hki⟩ := hrel
          have KI := Lib.hid hki
          clear hki
          by_cases hlti : i < P
          · have m1 : (i : Int) < P := by omega
            go_wp2_with fail
            go_loopw [19] (fun kv wr => ∃ y : Nat, y ≤ Q ∧ kv = .int .i64 y ∧ Kp (fun _ => False) w9 wr) (fun kv _ => Q - (intOf kv).toNat)
            case atStart => exact ⟨0, by omega, rfl, KI.out⟩
            case round =>
              obtain ⟨y, hy, rfl, hky⟩ := hrel
              have KY := Lib.hid hky
              clear hky
              by_cases hlty : y < Q
              · have m2 : (y : Int) < Q := by omega
                have hr8 := H8.out.kpF (K9.out.trans KY.out)
                have hr9 := H9.out.kpF KY.out
                obtain ⟨b8, o8, rfl, x8⟩ := hr8.intAt (k := i) (by rw [← HE.out.2.2.1]; exact hlti)
                obtain ⟨b9, o9, rfl, x9⟩ := hr9.intAt (k := y) (by rw [← HE.out.2.2.2.1]; exact hlty)
                have het := ET.out i y hlti hlty
                have d8 := Rd.dropA hr8 (t := i) (cap := C8) (by rw [ints_len, ← HE.out.2.2.1]; exact hc8)
                have d9 := Rd.dropA hr9 (t := y) (cap := C9) (by rw [ints_len, ← HE.out.2.2.2.1]; exact hc9)
                have m3 : ¬ C8 = i := by omega
                have m4 : ¬ C9 = y := by omega
                rw [if_neg m3, Option.map_some, Addr.add_mid, ints_drop] at d8
                rw [if_neg m4, Option.map_some, Addr.add_mid, ints_drop] at d9
                by_cases hxe : tA.getD i 0 = tB.getD y 0
                · have hdd := het hxe
                  have hdl := congrArg List.length hdd
                  rw [List.length_drop, List.length_drop, ← HE.out.2.2.1, ← HE.out.2.2.2.1] at hdl
                  rw [← hdd] at d9
                  rw [← hxe] at x9
                  have hd1 : (tA.drop i).length = P - i := by rw [List.length_drop, ← HE.out.2.2.1]
                  have CSI := fun nq => Calls.quiet_of (n := nq) ((sameints_n (some ⟨b8, o8 + i, none⟩) (some ⟨b9, o9 + y, none⟩) (C8 - i) (C9 - y) (P - i) (Q - y) (tA.drop i) (World.drewN wr nq) (d8.kpF ((Kp.refl _ wr).drewN nq)) (d9.kpF ((Kp.refl _ wr).drewN nq)) hd1.symm (by omega) (by omega)))
                  generalize tA.getD i 0 = x at *
                  have m5 : (((P : Int) - (i : Int)) != ((Q : Int) - (y : Int))) = false := by simp; omega
                  have m6 : (((P : Int) - (i : Int)) == ((Q : Int) - (y : Int))) = true := by simp; omega
                  have m7 : (i : Int) ≤ P := by omega
                  have m8 : (y : Int) ≤ Q := by omega
                  have CS := Lib.hid CSI
                  clear hdd hdl hd1 het d8 d9 hr8 hr9 CSI
                  go_wp2_with fail
                  go_quiet (exact CS.out _)
                  go_wp2_with fail
                  go_roundw
                  case rel => exact ⟨y + 1, by omega, by go_num, KY.out.drewN _⟩
                  case measure => simp [intOf]; omega
                · generalize tA.getD i 0 = x at *
                  generalize tB.getD y 0 = x' at *
                  have m5 : ((x : Int) == (x' : Int)) = false := by simp; omega
                  clear het d8 d9 hr8 hr9 hxe
                  go_wp2_with fail
                  go_quiet (fail)
                  go_wp2_with fail
                  go_roundw
                  case rel => exact ⟨y + 1, by omega, by go_num, KY.out.drewN _⟩
                  case measure => simp [intOf]; omega
              · have m2 : ¬ (y : Int) < Q := by omega
                go_wp2_with fail
                go_roundw
                case rel => exact ⟨i + 1, by omega, by go_num, KY.out⟩
                case measure => simp [intOf]; omega
          · have m1 : ¬ (i : Int) < P := by omega
            go_wp2_with fail
            go_ret
            exact ⟨rfl, (KT.out.trans KI.out).below (fun _ _ h => h)⟩
    · have j1 : ¬ (k : Int) < NA := by omega
      generalize U k = u at *
      go_wp2_with (first | (go_at_call 30; (with_reducible refine (TA.out _ _ _ (H6.out.1.kpF (H7.out.2.trans KP.out))).mono ?_); rintro e w8 ⟨A8, C8, rfl, hc8, hr8, k8⟩; have H8 := Lib.hid hr8; have K8 := Lib.hid k8; clear hr8 k8) |
        (go_at_call 30; (with_reducible refine (TB.out _ _ _ (H7.out.1.kpF (KP.out.trans K8.out))).mono ?_); rintro e w9 ⟨A9, C9, rfl, hc9, hr9, k9⟩; have H9 := Lib.hid hr9; have K9 := Lib.hid k9; have KT := Lib.hid (K7.out.trans (KP.out.trans (K8.out.trans k9))); clear hr9 k9))
      go_loopw [18] (fun iv wr => ∃ i : Nat, i ≤ P ∧ iv = .int .i64 i ∧ Kp (fun _ => False) w9 wr) (fun iv _ => P - (intOf iv).toNat)
      case atStart => exact ⟨0, by omega, rfl, Kp.refl _ _⟩
      case round =>
        obtain ⟨i, hi, rfl, hki⟩ := hrel
        have KI := Lib.hid hki
        clear hki
        by_cases hlti : i < P
        · have m1 : (i : Int) < P := by omega
          go_wp2_with fail
          go_loopw [19] (fun kv wr => ∃ y : Nat, y ≤ Q ∧ kv = .int .i64 y ∧ Kp (fun _ => False) w9 wr) (fun kv _ => Q - (intOf kv).toNat)
          case atStart => exact ⟨0, by omega, rfl, KI.out⟩
          case round =>
            obtain ⟨y, hy, rfl, hky⟩ := hrel
            have KY := Lib.hid hky
            clear hky
            by_cases hlty : y < Q
            · have m2 : (y : Int) < Q := by omega
              have hr8 := H8.out.kpF (K9.out.trans KY.out)
              have hr9 := H9.out.kpF KY.out
              obtain ⟨b8, o8, rfl, x8⟩ := hr8.intAt (k := i) (by rw [← HE.out.2.2.1]; exact hlti)
              obtain ⟨b9, o9, rfl, x9⟩ := hr9.intAt (k := y) (by rw [← HE.out.2.2.2.1]; exact hlty)
              have het := ET.out i y hlti hlty
              have d8 := Rd.dropA hr8 (t := i) (cap := C8) (by rw [ints_len, ← HE.out.2.2.1]; exact hc8)
              have d9 := Rd.dropA hr9 (t := y) (cap := C9) (by rw [ints_len, ← HE.out.2.2.2.1]; exact hc9)
              have m3 : ¬ C8 = i := by omega
              have m4 : ¬ C9 = y := by omega
              rw [if_neg m3, Option.map_some, Addr.add_mid, ints_drop] at d8
              rw [if_neg m4, Option.map_some, Addr.add_mid, ints_drop] at d9
              by_cases hxe : tA.getD i 0 = tB.getD y 0
              · have hdd := het hxe
                have hdl := congrArg List.length hdd
                rw [List.length_drop, List.length_drop, ← HE.out.2.2.1, ← HE.out.2.2.2.1] at hdl
                rw [← hdd] at d9
                rw [← hxe] at x9
                have hd1 : (tA.drop i).length = P - i := by rw [List.length_drop, ← HE.out.2.2.1]
                have CSI := fun nq => Calls.quiet_of (n := nq) ((sameints_n (some ⟨b8, o8 + i, none⟩) (some ⟨b9, o9 + y, none⟩) (C8 - i) (C9 - y) (P - i) (Q - y) (tA.drop i) (World.drewN wr nq) (d8.kpF ((Kp.refl _ wr).drewN nq)) (d9.kpF ((Kp.refl _ wr).drewN nq)) hd1.symm (by omega) (by omega)))
                generalize tA.getD i 0 = x at *
                have m5 : (((P : Int) - (i : Int)) != ((Q : Int) - (y : Int))) = false := by simp; omega
                have m6 : (((P : Int) - (i : Int)) == ((Q : Int) - (y : Int))) = true := by simp; omega
                have m7 : (i : Int) ≤ P := by omega
                have m8 : (y : Int) ≤ Q := by omega
                have CS := Lib.hid CSI
                clear hdd hdl hd1 het d8 d9 hr8 hr9 CSI
                go_wp2_with fail
                go_quiet (exact CS.out _)
                go_wp2_with fail
                go_roundw
                case rel => exact ⟨y + 1, by omega, by go_num, KY.out.drewN _⟩
                case measure => simp [intOf]; omega
              · generalize tA.getD i 0 = x at *
                generalize tB.getD y 0 = x' at *
                have m5 : ((x : Int) == (x' : Int)) = false := by simp; omega
                clear het d8 d9 hr8 hr9 hxe
                go_wp2_with fail
                go_quiet (fail)
                go_wp2_with fail
                go_roundw
                case rel => exact ⟨y + 1, by omega, by go_num, KY.out.drewN _⟩
                case measure => simp [intOf]; omega
            · have m2 : ¬ (y : Int) < Q := by omega
              go_wp2_with fail
              go_roundw
              case rel => exact ⟨i + 1, by omega, by go_num, KY.out⟩
              case measure => simp [intOf]; omega
        · have m1 : ¬ (i : Int) < P := by omega
          go_wp2_with fail
          go_ret
          exact ⟨rfl, (KT.out.trans KI.out).below (fun _ _ h => h)⟩
theorem bytes_in {w : World} {a : Option Addr} {len cap : Nat} (r : Rdg Try.prog w 22 [.slice a len cap]) : ∃ l : List Int, len = l.length ∧ RdB w a l := by
  obtain ⟨_, l, _, e0, h, _, _⟩ := r.bytes Try.underlying22 Try.underlying5 (by kernel_rfl) (by kernel_rfl)
  simp only [List.cons.injEq, Value.slice.injEq, and_true] at e0
  obtain ⟨rfl, rfl, rfl⟩ := e0
  exact ⟨l, rfl, h⟩
set_option maxHeartbeats 1000000 in
theorem edits_long (a0 a1 a2 a3 : Option Addr) (c0 c1 c2 c3 n0 n1 n2 n3 : Nat) (w : World) (hl : 4000 < n0 ∨ 1000 < n1 ∨ 1000 < n2 ∨ 4000 < n3) :
    Calls Try.prog 8 #[.slice a0 n0 c0, .slice a1 n1 c1, .slice a2 n2 c2, .slice a3 n3 c3] w fun e w' => e = .returned (.bool true) ∧ Below w.heap.size w w' := by
  have AW := Lib.hid (fun w' => awake_any w')
  go_enter Try.func8, Try.ntmps8
  by_cases h0 : (4000 : Int) < (n0 : Int)
  · clear hl
    go_wp2_with (go_at_call 20; (with_reducible refine (AW.out _).mono ?_); rintro e w1 ⟨rfl, k1⟩; have K1 := Lib.hid k1; clear k1)
    go_ret
    exact ⟨rfl, K1.out.below (fun _ _ h => h)⟩
  · by_cases h1 : (1000 : Int) < (n1 : Int)
    · clear hl
      go_wp2_with (go_at_call 20; (with_reducible refine (AW.out _).mono ?_); rintro e w1 ⟨rfl, k1⟩; have K1 := Lib.hid k1; clear k1)
      go_ret
      exact ⟨rfl, K1.out.below (fun _ _ h => h)⟩
    · by_cases h2 : (1000 : Int) < (n2 : Int)
      · clear hl
        go_wp2_with (go_at_call 20; (with_reducible refine (AW.out _).mono ?_); rintro e w1 ⟨rfl, k1⟩; have K1 := Lib.hid k1; clear k1)
        go_ret
        exact ⟨rfl, K1.out.below (fun _ _ h => h)⟩
      · have h3 : (4000 : Int) < (n3 : Int) := by omega
        clear hl
        go_wp2_with (go_at_call 20; (with_reducible refine (AW.out _).mono ?_); rintro e w1 ⟨rfl, k1⟩; have K1 := Lib.hid k1; clear k1)
        go_ret
        exact ⟨rfl, K1.out.below (fun _ _ h => h)⟩
theorem chunkEdits_walk (a0 : Option Addr) (len0 cap0 : Nat) (a1 : Option Addr) (len1 cap1 : Nat) (a2 : Option Addr) (len2 cap2 : Nat) (a3 : Option Addr) (len3 cap3 : Nat) (w : World) (r0 : Rdg Try.prog w 22 [.slice a0 len0 cap0]) (r1 : Rdg Try.prog w 22 [.slice a1 len1 cap1])
    (r2 : Rdg Try.prog w 22 [.slice a2 len2 cap2]) (r3 : Rdg Try.prog w 22 [.slice a3 len3 cap3]) :
    Calls Try.prog 8 #[.slice a0 len0 cap0, .slice a1 len1 cap1, .slice a2 len2 cap2, .slice a3 len3 cap3] w fun e w' => e = .returned (.bool true) ∧ Below w.heap.size w w' := by
  obtain ⟨l0, e0, h0⟩ := bytes_in r0
  obtain ⟨l1, e1, h1⟩ := bytes_in r1
  obtain ⟨l2, e2, h2⟩ := bytes_in r2
  obtain ⟨l3, e3, h3⟩ := bytes_in r3
  by_cases hl : 4000 < len0 ∨ 1000 < len1 ∨ 1000 < len2 ∨ 4000 < len3
  · exact edits_long _ _ _ _ _ _ _ _ _ _ _ _ w hl
  · exact edits_main _ _ _ _ _ _ _ _ _ _ _ _ l0 l1 l2 l3 e0 e1 e2 e3 w h0 h1 h2 h3 (by omega) (by omega) (by omega) (by omega)
end Go.Proofs.Ytlabkldpcbmjbaa
