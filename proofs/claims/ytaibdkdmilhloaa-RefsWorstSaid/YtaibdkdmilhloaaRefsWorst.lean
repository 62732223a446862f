/- RefsWorst: the walk. (Written by wip/refworst.py.) -/
import Derived.Test.YtaibdkdmilhloaaPkO
import Derived.Test.YtaibdkdmilhloaaFnd
import Derived.Test.YtaibdkdmilhloaaWst
import Derived.Test.YtaibdkdmilhloaaChr
import Derived.Test.YtaibdkdmilhloaaRat
import Derived.Test.YtaibdkdmilhloaaAwk
namespace Go.Proofs.Ytaibdkdmilhloaa
open Go.RowKit Flt
set_option linter.unusedVariables false
set_option linter.unusedSimpArgs false
theorem before_like {a b a' b' : Nat} {v : Bool} (h : Like a a') (k : Like b b') (hv : bef a' b' = v) (w : World) : Calls Try.prog 20 #[.float .f64 a, .float .f64 b] w fun e w' => e = .returned (.bool v) ∧ Kp (fun _ => False) w w' :=
  (before_any a b w).mono fun e w' ⟨h1, h2⟩ => ⟨by rw [h1, Like.bef h k, hv], by rw [h2]; exact Kp.refl _ _⟩
theorem chosen_in (a : Option Addr) (n c : Nat) (l : List Int) (hn : n = l.length) (x : Int) (hx : x ∈ l) (w : World) (h : Rd w a (intsZ l)) (hb : n ≤ 1000000) :
    Calls Try.prog 22 #[.slice a n c, .int .i64 x] w fun e w' => e = .returned (.bool true) ∧ Kp (fun _ => False) w w' :=
  (chosen_any a n c l hn x w h hb).mono fun e w' ⟨h1, h2⟩ => ⟨by rw [h1, decide_eq_true hx], h2⟩
theorem refsWorst_long (a : Option Addr) (n c : Nat) (least : Nat) (most more : Int) (w : World) (hl : 100 < n) :
    Calls Try.prog 5 #[.slice a n c, .float .f64 least, .int .i64 most, .int .i64 more] w fun e w' => e = .returned (.bool true) ∧ Below w.heap.size w w' := by
  have h1 : (100 : Int) < n := by omega
  go_enter Try.func5, Try.ntmps5
  go_wp2_with fail
  go_at_call 15
  refine (awake_any _).mono ?_
  rintro e w1 ⟨rfl, k1⟩
  have K1 := Lib.hid k1
  clear k1
  go_wp2
  go_ret
  exact ⟨rfl, K1.out.below (fun _ _ h => h)⟩
theorem refsWorst_more (a : Option Addr) (n c : Nat) (least : Nat) (most more : Int) (w : World) (hl : n ≤ 100) (hm : more < most) :
    Calls Try.prog 5 #[.slice a n c, .float .f64 least, .int .i64 most, .int .i64 more] w fun e w' => e = .returned (.bool true) ∧ Below w.heap.size w w' := by
  have h1 : (n : Int) ≤ 100 := by omega
  go_enter Try.func5, Try.ntmps5
  go_wp2_with fail
  go_at_call 15
  refine (awake_any _).mono ?_
  rintro e w1 ⟨rfl, k1⟩
  have K1 := Lib.hid k1
  clear k1
  go_wp2
  go_ret
  exact ⟨rfl, K1.out.below (fun _ _ h => h)⟩
theorem Rd.take {w : World} {a : Option Addr} {vs : List Value} (h : Rd w a vs) (k : Nat) : Rd w a (vs.take k) := fun i hi => by
  rw [List.length_take] at hi
  obtain ⟨b, off, e, hc⟩ := h i (by omega)
  refine ⟨b, off, e, hc.trans ?_⟩
  rw [List.getD_eq_getElem?_getD, List.getD_eq_getElem?_getD, List.getElem?_take, if_pos (by omega)]
set_option maxHeartbeats 4000000 in
set_option maxRecDepth 20000 in
theorem refsWorst_main (a : Option Addr) (n c : Nat) (l : List Pk) (least : Nat) (most more : Int) (w : World) (hr : RdP w a l) (hn : n = l.length) (hl : n ≤ 100) (hm : most ≤ more) :
    Calls Try.prog 5 #[.slice a n c, .float .f64 least, .int .i64 most, .int .i64 more] w fun e w' => e = .returned (.bool true) ∧ Below w.heap.size w w' := by
  have h1 : (n : Int) ≤ 100 := by omega
  have H := Lib.hid (And.intro hr hn)
  have HB := Lib.hid hl
  clear hr hn
  go_enter Try.func5, Try.ntmps5
  go_wp2_with fail
  go_at_call 15
  refine (awake_any _).mono ?_
  rintro e w1 ⟨rfl, k1⟩
  have K1 := Lib.hid k1
  clear k1
  go_wp2_with fail
  go_loopw [10, 11] (fun tv iv wr => ∃ i : Nat, i ≤ n ∧ iv = .int .i64 i ∧ tv = .int .i64 (worthN l least i : Nat) ∧ Unl l i ∧ Kp (fun _ => False) w1 wr) (fun _ iv _ => n - (intOf iv).toNat)
  case atStart => exact ⟨0, by omega, rfl, rfl, fun i j h => absurd h (Nat.not_lt_zero _), Kp.refl _ _⟩
  case round =>
    obtain ⟨i, hi, rfl, rfl, hu, hk⟩ := hrel
    have HK := Lib.hid (And.intro True.intro (And.intro hu hk))
    have hwl := worthN_le l least i
    have hws := worthN_succ l least i
    clear hu hk
    by_cases hlt : i < n
    · have j1 : (i : Int) < n := by omega
      obtain ⟨W, hW⟩ : ∃ W, W = worthN l least i := ⟨_, rfl⟩
      rw [← hW] at hwl hws ⊢
      have HWS := Lib.hid (And.intro hW hws)
      clear hws hW
      obtain ⟨wo, hwo⟩ : ∃ wo, wo = wr := ⟨_, rfl⟩
      rw [← hwo] at HK ⊢
      clear hwo wr
      go_wp2_with fail
      go_loopw [12] (fun kv wr => ∃ k : Nat, k ≤ i ∧ kv = .int .i64 k ∧ (∀ j, j < k → (pkn l j).num ≠ (pkn l i).num) ∧ Kp (fun _ => False) wo wr) (fun kv _ => i - (intOf kv).toNat)
      case atStart => exact ⟨0, by omega, rfl, fun j h => absurd h (Nat.not_lt_zero _), Kp.refl _ _⟩
      case round =>
        obtain ⟨k, hk, rfl, hne, hkk⟩ := hrel
        have KI := Lib.hid (And.intro hne hkk)
        clear hne hkk
        obtain ⟨b, o, e1, x0, x1, x2⟩ := (H.out.1.kp0 ((K1.out.trans HK.out.2.2).trans KI.out.2)) i (by rw [← H.out.2]; exact hlt)
        by_cases hki : k < i
        · have j2 : (k : Int) < i := by omega
          have j3 : (k : Int) < n := by omega
          obtain ⟨b', o', e2, y0, _, _⟩ := (H.out.1.kp0 ((K1.out.trans HK.out.2.2).trans KI.out.2)) k (by rw [← H.out.2]; omega)
          rw [e1] at e2; cases e2
          subst e1
          obtain ⟨N1, hN1⟩ : ∃ N1, N1 = (pkn l k).num := ⟨_, rfl⟩
          obtain ⟨N2, hN2⟩ : ∃ N2, N2 = (pkn l i).num := ⟨_, rfl⟩
          rw [← hN1] at y0
          rw [← hN2] at x0
          have A := Lib.hid y0
          have B := Lib.hid x0
          have HN := Lib.hid (And.intro hN1 hN2)
          clear x0 x1 x2 y0 hN1 hN2
          go_upto_region 11 with fail
          by_cases hq : N1 = N2
          · have Q1 := Lib.hid (show (N1 == N2) = true by simpa using hq)
            clear hq
            refine region_L (S := fun w' => Kp (fun _ => False) wr w') [] rfl ?_
            have hSd : ∀ (w' : World) (n' : Nat), Kp (fun _ => False) wr w' → Kp (fun _ => False) wr (w'.drewN n') := fun w' n' h => h.drewN n'
            have hS0 : Kp (fun _ => False) wr wr.drew := (Kp.refl _ wr).drew
            refine anyL_world (fun w' => Kp (fun _ => False) wr w') hS0 ?_
            clear hS0
            intro x0 kx0
            refine anyL_takeF (i := 0) (d := 40) (v := (.slice (some ⟨b, o, none⟩) n c)) rfl rfl (by kernel_rfl) (by kernel_rfl) (by kernel_rfl) (fun _ _ _ h => h) hSd (by kernel_rfl) (.inl (.inl ⟨rfl, fun w' hS => by first | rfl | go_simp⟩)) (fun _ => kx0) ?_
            try simp only [List.setIfInBounds_toArray, List.set_cons_succ, List.set_cons_zero]
            refine anyL_takeF (i := 1) (d := 41) (v := (.int .i64 (k : Nat))) rfl rfl (by kernel_rfl) (by kernel_rfl) (by kernel_rfl) (fun _ _ _ h => h) hSd (by kernel_rfl) (.inl (.inl ⟨rfl, fun w' hS => by first | rfl | go_simp⟩)) (fun _ => kx0) ?_
            try simp only [List.setIfInBounds_toArray, List.set_cons_succ, List.set_cons_zero]
            refine anyL_takeF (i := 2) (d := 42) (v := (.pointer (some ⟨b, o + k * 3, none⟩))) rfl rfl (by kernel_rfl) (by kernel_rfl) (by kernel_rfl) (fun _ _ _ h => h) hSd (by kernel_rfl) (.inl (.inl ⟨rfl, fun w' hS => by first | rfl | go_simp⟩)) (fun _ => kx0) ?_
            try simp only [List.setIfInBounds_toArray, List.set_cons_succ, List.set_cons_zero]
            refine anyL_takeF (i := 3) (d := 43) (v := (.pointer (some ⟨b, o + k * 3, none⟩))) rfl rfl (by kernel_rfl) (by kernel_rfl) (by kernel_rfl) (fun _ _ _ h => h) hSd (by kernel_rfl) (.inl (.inl ⟨rfl, fun w' hS => by first | rfl | go_simp⟩)) (fun _ => kx0) ?_
            try simp only [List.setIfInBounds_toArray, List.set_cons_succ, List.set_cons_zero]
            refine anyL_takeD (i := 4) (d := 44) (v := (.int .i64 N1)) rfl rfl (by kernel_rfl) (by kernel_rfl) (by kernel_rfl) (fun _ _ _ h => h) hSd (by kernel_rfl) (.inl (.inl ⟨rfl, fun w' hS => by have h0 := hS.cell A.out (fun h => h); go_simp⟩)) kx0 ?_
            try simp only [List.setIfInBounds_toArray, List.set_cons_succ, List.set_cons_zero]
            refine anyL_takeF (i := 5) (d := 45) (v := (.slice (some ⟨b, o, none⟩) n c)) rfl rfl (by kernel_rfl) (by kernel_rfl) (by kernel_rfl) (fun _ _ _ h => h) hSd (by kernel_rfl) (.inl (.inl ⟨rfl, fun w' hS => by first | rfl | go_simp⟩)) (fun _ => kx0) ?_
            try simp only [List.setIfInBounds_toArray, List.set_cons_succ, List.set_cons_zero]
            refine anyL_takeF (i := 6) (d := 46) (v := (.int .i64 (i : Nat))) rfl rfl (by kernel_rfl) (by kernel_rfl) (by kernel_rfl) (fun _ _ _ h => h) hSd (by kernel_rfl) (.inl (.inl ⟨rfl, fun w' hS => by first | rfl | go_simp⟩)) (fun _ => kx0) ?_
            try simp only [List.setIfInBounds_toArray, List.set_cons_succ, List.set_cons_zero]
            refine anyL_takeF (i := 7) (d := 47) (v := (.pointer (some ⟨b, o + i * 3, none⟩))) rfl rfl (by kernel_rfl) (by kernel_rfl) (by kernel_rfl) (fun _ _ _ h => h) hSd (by kernel_rfl) (.inl (.inl ⟨rfl, fun w' hS => by first | rfl | go_simp⟩)) (fun _ => kx0) ?_
            try simp only [List.setIfInBounds_toArray, List.set_cons_succ, List.set_cons_zero]
            refine anyL_takeF (i := 8) (d := 48) (v := (.pointer (some ⟨b, o + i * 3, none⟩))) rfl rfl (by kernel_rfl) (by kernel_rfl) (by kernel_rfl) (fun _ _ _ h => h) hSd (by kernel_rfl) (.inl (.inl ⟨rfl, fun w' hS => by first | rfl | go_simp⟩)) (fun _ => kx0) ?_
            try simp only [List.setIfInBounds_toArray, List.set_cons_succ, List.set_cons_zero]
            refine anyL_takeD (i := 9) (d := 49) (v := (.int .i64 N2)) rfl rfl (by kernel_rfl) (by kernel_rfl) (by kernel_rfl) (fun _ _ _ h => h) hSd (by kernel_rfl) (.inl (.inl ⟨rfl, fun w' hS => by have h0 := hS.cell B.out (fun h => h); go_simp⟩)) kx0 ?_
            try simp only [List.setIfInBounds_toArray, List.set_cons_succ, List.set_cons_zero]
            refine anyL_takeF (i := 10) (d := 50) (v := (.bool true)) rfl rfl (by kernel_rfl) (by kernel_rfl) (by kernel_rfl) (fun _ _ _ h => h) hSd (by kernel_rfl) (.inl (.inl ⟨rfl, fun w' hS => by have q := Q1.out; go_simp⟩)) (fun _ => kx0) ?_
            try simp only [List.setIfInBounds_toArray, List.set_cons_succ, List.set_cons_zero]
            refine anyL_done (by kernel_rfl) (fun nn => ?_) _
            have kw9 := kx0.drewN nn
            generalize x0.drewN nn = w9 at *
            clear hSd A B Q1
            have K9 := Lib.hid kw9
            clear kw9
            go_wp2
            go_ret
            exact ⟨rfl, (((K1.out.trans HK.out.2.2).trans KI.out.2).trans K9.out).below (fun _ _ h => h)⟩
          · have Q1 := Lib.hid (show (N1 == N2) = false by simpa using hq)
            have NE := Lib.hid (show (pkn l k).num ≠ (pkn l i).num by rw [← HN.out.1, ← HN.out.2]; exact hq)
            clear hq
            refine region_L (S := fun w' => Kp (fun _ => False) wr w') [] rfl ?_
            have hSd : ∀ (w' : World) (n' : Nat), Kp (fun _ => False) wr w' → Kp (fun _ => False) wr (w'.drewN n') := fun w' n' h => h.drewN n'
            have hS0 : Kp (fun _ => False) wr wr.drew := (Kp.refl _ wr).drew
            refine anyL_world (fun w' => Kp (fun _ => False) wr w') hS0 ?_
            clear hS0
            intro x0 kx0
            refine anyL_takeF (i := 0) (d := 40) (v := (.slice (some ⟨b, o, none⟩) n c)) rfl rfl (by kernel_rfl) (by kernel_rfl) (by kernel_rfl) (fun _ _ _ h => h) hSd (by kernel_rfl) (.inl (.inl ⟨rfl, fun w' hS => by first | rfl | go_simp⟩)) (fun _ => kx0) ?_
            try simp only [List.setIfInBounds_toArray, List.set_cons_succ, List.set_cons_zero]
            refine anyL_takeF (i := 1) (d := 41) (v := (.int .i64 (k : Nat))) rfl rfl (by kernel_rfl) (by kernel_rfl) (by kernel_rfl) (fun _ _ _ h => h) hSd (by kernel_rfl) (.inl (.inl ⟨rfl, fun w' hS => by first | rfl | go_simp⟩)) (fun _ => kx0) ?_
            try simp only [List.setIfInBounds_toArray, List.set_cons_succ, List.set_cons_zero]
            refine anyL_takeF (i := 2) (d := 42) (v := (.pointer (some ⟨b, o + k * 3, none⟩))) rfl rfl (by kernel_rfl) (by kernel_rfl) (by kernel_rfl) (fun _ _ _ h => h) hSd (by kernel_rfl) (.inl (.inl ⟨rfl, fun w' hS => by first | rfl | go_simp⟩)) (fun _ => kx0) ?_
            try simp only [List.setIfInBounds_toArray, List.set_cons_succ, List.set_cons_zero]
            refine anyL_takeF (i := 3) (d := 43) (v := (.pointer (some ⟨b, o + k * 3, none⟩))) rfl rfl (by kernel_rfl) (by kernel_rfl) (by kernel_rfl) (fun _ _ _ h => h) hSd (by kernel_rfl) (.inl (.inl ⟨rfl, fun w' hS => by first | rfl | go_simp⟩)) (fun _ => kx0) ?_
            try simp only [List.setIfInBounds_toArray, List.set_cons_succ, List.set_cons_zero]
            refine anyL_takeD (i := 4) (d := 44) (v := (.int .i64 N1)) rfl rfl (by kernel_rfl) (by kernel_rfl) (by kernel_rfl) (fun _ _ _ h => h) hSd (by kernel_rfl) (.inl (.inl ⟨rfl, fun w' hS => by have h0 := hS.cell A.out (fun h => h); go_simp⟩)) kx0 ?_
            try simp only [List.setIfInBounds_toArray, List.set_cons_succ, List.set_cons_zero]
            refine anyL_takeF (i := 5) (d := 45) (v := (.slice (some ⟨b, o, none⟩) n c)) rfl rfl (by kernel_rfl) (by kernel_rfl) (by kernel_rfl) (fun _ _ _ h => h) hSd (by kernel_rfl) (.inl (.inl ⟨rfl, fun w' hS => by first | rfl | go_simp⟩)) (fun _ => kx0) ?_
            try simp only [List.setIfInBounds_toArray, List.set_cons_succ, List.set_cons_zero]
            refine anyL_takeF (i := 6) (d := 46) (v := (.int .i64 (i : Nat))) rfl rfl (by kernel_rfl) (by kernel_rfl) (by kernel_rfl) (fun _ _ _ h => h) hSd (by kernel_rfl) (.inl (.inl ⟨rfl, fun w' hS => by first | rfl | go_simp⟩)) (fun _ => kx0) ?_
            try simp only [List.setIfInBounds_toArray, List.set_cons_succ, List.set_cons_zero]
            refine anyL_takeF (i := 7) (d := 47) (v := (.pointer (some ⟨b, o + i * 3, none⟩))) rfl rfl (by kernel_rfl) (by kernel_rfl) (by kernel_rfl) (fun _ _ _ h => h) hSd (by kernel_rfl) (.inl (.inl ⟨rfl, fun w' hS => by first | rfl | go_simp⟩)) (fun _ => kx0) ?_
            try simp only [List.setIfInBounds_toArray, List.set_cons_succ, List.set_cons_zero]
            refine anyL_takeF (i := 8) (d := 48) (v := (.pointer (some ⟨b, o + i * 3, none⟩))) rfl rfl (by kernel_rfl) (by kernel_rfl) (by kernel_rfl) (fun _ _ _ h => h) hSd (by kernel_rfl) (.inl (.inl ⟨rfl, fun w' hS => by first | rfl | go_simp⟩)) (fun _ => kx0) ?_
            try simp only [List.setIfInBounds_toArray, List.set_cons_succ, List.set_cons_zero]
            refine anyL_takeD (i := 9) (d := 49) (v := (.int .i64 N2)) rfl rfl (by kernel_rfl) (by kernel_rfl) (by kernel_rfl) (fun _ _ _ h => h) hSd (by kernel_rfl) (.inl (.inl ⟨rfl, fun w' hS => by have h0 := hS.cell B.out (fun h => h); go_simp⟩)) kx0 ?_
            try simp only [List.setIfInBounds_toArray, List.set_cons_succ, List.set_cons_zero]
            refine anyL_takeF (i := 10) (d := 50) (v := (.bool false)) rfl rfl (by kernel_rfl) (by kernel_rfl) (by kernel_rfl) (fun _ _ _ h => h) hSd (by kernel_rfl) (.inl (.inl ⟨rfl, fun w' hS => by have q := Q1.out; go_simp⟩)) (fun _ => kx0) ?_
            try simp only [List.setIfInBounds_toArray, List.set_cons_succ, List.set_cons_zero]
            refine anyL_done (by kernel_rfl) (fun nn => ?_) _
            have kw9 := kx0.drewN nn
            generalize x0.drewN nn = w9 at *
            clear hSd A B Q1
            have K9 := Lib.hid kw9
            clear kw9
            go_wp2
            go_roundw
            case rel =>
              refine ⟨k + 1, by omega, by go_num, fun j hj => ?_, KI.out.2.trans K9.out⟩
              by_cases hjk : j < k
              · exact KI.out.1 j hjk
              · obtain rfl : j = k := by omega
                exact NE.out
            case measure => simp [intOf]; omega
        · obtain rfl : k = i := by omega
          clear hki
          subst e1
          obtain ⟨p, hp⟩ : ∃ p, p = pkn l k := ⟨_, rfl⟩
          rw [← hp] at x0 x1 x2
          have HP := Lib.hid hp
          clear hp
          go_wp2_with fail
          go_at_call 11
          refine (upart_any p _).mono ?_
          rintro e w4 ⟨r, rfl, hlk, k4⟩
          have hbf : bef least r = bef least (canP (pkn l k)) := by rw [← HP.out]; exact Like.bef (.inl rfl) hlk
          have H4 := Lib.hid (And.intro hbf k4)
          clear hlk k4 hbf x0 x1 x2
          cases hbb : bef least (canP (pkn l k))
          · have CB := Lib.hid (before_like (.inl rfl) (.inl rfl) (H4.out.1.trans hbb) w4)
            have HU := Lib.hid hbb
            clear hbb
            go_wp2_with fail
            go_at_call 20
            refine CB.out.mono ?_
            rintro e w5 ⟨rfl, k5⟩
            have K5 := Lib.hid k5
            clear k5 CB
            go_wp2
            go_roundw
            case rel =>
              have hx := HWS.out.2
              rw [HU.out, if_neg (by simp)] at hx
              refine ⟨k + 1, by omega, by go_num, by rw [hx]; go_num, ?_, ((HK.out.2.2.trans KI.out.2).trans H4.out.2).trans K5.out⟩
              intro i' j' h1 h2
              by_cases h3 : i' < k
              · exact HK.out.2.1 i' j' h3 h2
              · obtain rfl : i' = k := by omega
                exact KI.out.1 j' h2
            case measure => simp [intOf]; omega
          · have CB := Lib.hid (before_like (.inl rfl) (.inl rfl) (H4.out.1.trans hbb) w4)
            have HU := Lib.hid hbb
            clear hbb
            go_wp2_with fail
            go_at_call 20
            refine CB.out.mono ?_
            rintro e w5 ⟨rfl, k5⟩
            have K5 := Lib.hid k5
            clear k5 CB
            go_wp2
            go_roundw
            case rel =>
              have hx := HWS.out.2
              rw [HU.out, if_pos rfl, Nat.add_zero] at hx
              refine ⟨k + 1, by omega, by go_num, by rw [hx]; rfl, ?_, ((HK.out.2.2.trans KI.out.2).trans H4.out.2).trans K5.out⟩
              intro i' j' h1 h2
              by_cases h3 : i' < k
              · exact HK.out.2.1 i' j' h3 h2
              · obtain rfl : i' = k := by omega
                exact KI.out.1 j' h2
            case measure => simp [intOf]; omega
    · obtain rfl : n = i := by omega
      clear hlt hws
      go_wp2_with fail
      go_at_call 9
      refine (choose_any a n c l least most _ H.out.2 (by omega) (H.out.1.kp0 (K1.out.trans HK.out.2.2))).mono ?_
      rintro e w5 ⟨v5, W, rfl, hW, hWp, ho5, hg5, k5⟩
      obtain ⟨a5, c5, rfl, hc5, _⟩ := ho5.form
      have R5 := Lib.hid (And.intro ho5.rd k5)
      have HW := Lib.hid (And.intro hW hWp)
      clear ho5 hg5 k5 hW hWp
      go_wp2_with fail
      go_at_call 9
      refine (choose_any a n c l least more _ H.out.2 (by omega) (H.out.1.kp0 ((K1.out.trans HK.out.2.2).trans R5.out.2))).mono ?_
      rintro e w6 ⟨v6, W2, rfl, hW2, hWp2, ho6, hg6, k6⟩
      obtain rfl := sorted_uniq hW2 HW.out.1 hWp2 HW.out.2
      obtain ⟨a6, c6, rfl, hc6, _⟩ := ho6.form
      have hcl := chosen_len (least := least) (most := most) hWp2
      have hcm := chosen_len (least := least) (most := more) hWp2
      have hpre := chosen_pre (l := l) (least := least) (W := W2) hm
      rw [← H.out.2] at hcl hcm
      obtain ⟨R, hR⟩ : ∃ R, R = chosenL l least most W2 := ⟨_, rfl⟩
      obtain ⟨R2, hR2⟩ : ∃ R2, R2 = chosenL l least more W2 := ⟨_, rfl⟩
      rw [← hR] at R5 hcl hpre hc5 ⊢
      rw [← hR2] at ho6 hcm hpre hc6 ⊢
      obtain ⟨m, hmm⟩ : ∃ m, m = R.length := ⟨_, rfl⟩
      obtain ⟨m2, hmm2⟩ : ∃ m2, m2 = R2.length := ⟨_, rfl⟩
      rw [← hmm] at hcl hpre hc5 ⊢
      rw [← hmm2] at ho6 hcm hc6 ⊢
      have hmb : m ≤ 100 := by omega
      have hmb2 : m2 ≤ 100 := by omega
      have hle : m ≤ m2 := by have := Int.toNat_le_toNat hm; omega
      obtain ⟨T, hT⟩ : ∃ T, T = worthN l least n := ⟨_, rfl⟩
      rw [← hT] at hcl hcm hwl ⊢
      have hways : ((T : Int) < most ∧ m = T) ∨ (most < 0 ∧ m = 0 ∧ most ≤ T) ∨ (most = m ∧ 0 ≤ most ∧ most ≤ T) := by omega
      have R6 := Lib.hid (And.intro ho6.rd k6)
      have hR12 : Rd w6 a6 (intsZ R) := by
        rw [← hpre]
        unfold intsZ
        rw [List.map_take]
        exact Rd.take ho6.rd m
      have HH := Lib.hid (And.intro hR (And.intro hmm (And.intro hR12 (And.intro hWp2 hW2))))
      have HWY := Lib.hid hways
      have hr12 := R5.out.1.kp R6.out.2 (fun _ _ h => h)
      have CS := Lib.hid (fun x y (hx : m = x) (hy : m = y) => (by subst hx; subst hy; exact sameints_k a5 a6 c5 c6 R m hmm.symm w6 hr12 hR12 (by omega) : Calls Try.prog 13 #[.slice a5 x c5, .slice a6 y c6] w6 fun e w' => e = .returned (.bool true) ∧ Kp (fun _ => False) w6 w'))
      have kq := ((K1.out.trans HK.out.2.2).trans R5.out.2).trans k6
      have KQ := Lib.hid kq
      clear ho6 hg6 k6 hR hR2 hmm hmm2 hpre hWp2 hW2 hcl hcm hT hm hways hR12 hr12 kq
      go_upto_region 16 with fail
      go_cut [9, 92] (fun s t wx => s = .bool true ∧ t = .bool false ∧ Kp (fun _ => False) w6 wx)
      case first =>
        rcases HWY.out with ⟨q1, q2⟩ | ⟨q1, q2, q3⟩ | ⟨q1, q2, q3⟩
        · subst q2
          go_wp2_with fail
          go_at_call 13
          refine (CS.out _ _ rfl rfl).mono ?_
          rintro e w7 ⟨rfl, k7⟩
          have K7 := Lib.hid k7
          clear k7
          go_wp2_with fail
          go_meet
          exact ⟨rfl, (by first | rfl | (simp; omega)), K7.out⟩
        · subst q2
          go_wp2_with fail
          go_at_call 13
          refine (CS.out _ _ rfl rfl).mono ?_
          rintro e w7 ⟨rfl, k7⟩
          have K7 := Lib.hid k7
          clear k7
          go_wp2_with fail
          go_meet
          exact ⟨rfl, (by first | rfl | (simp; omega)), K7.out⟩
        · subst q1
          have q4 : (m : Int) ≤ m2 := by omega
          have q5 : m ≤ c6 := by omega
          go_wp2_with fail
          go_at_call 13
          refine (CS.out _ _ rfl (by omega)).mono ?_
          rintro e w7 ⟨rfl, k7⟩
          have K7 := Lib.hid k7
          clear k7
          go_wp2_with fail
          go_meet
          exact ⟨rfl, (by first | rfl | (simp; omega)), K7.out⟩
      case rest =>
        obtain ⟨rfl, rfl, k7⟩ := hcut
        obtain ⟨w7, hw7⟩ : ∃ w7, w7 = wc := ⟨_, rfl⟩
        rw [← hw7] at k7 ⊢
        clear hw7 wc
        have K7 := Lib.hid k7
        clear k7 CS HWY
        go_wp2_with fail
        go_loopw [15] (fun iv wr => ∃ i : Nat, i ≤ m ∧ iv = .int .i64 i ∧ Kp (fun _ => False) w7 wr) (fun iv _ => m - (intOf iv).toNat)
        case atStart => exact ⟨0, by omega, rfl, Kp.refl _ _⟩
        case round =>
          obtain ⟨i, hi, rfl, hk⟩ := hrel
          have HI := Lib.hid hk
          clear hk
          by_cases hlt : i < m
          · have j1 : (i : Int) < m := by omega
            have hiR : i < R.length := by rw [← HH.out.2.1]; exact hlt
            have hca := chosen_at HH.out.2.2.2.2 HH.out.2.2.2.1 (l := l) (least := least) (most := most) (i := i) (by rw [← HH.out.1]; exact hiR)
            rw [← HH.out.1] at hca
            obtain ⟨x, hx, hnum, hbx, hall⟩ := hca
            obtain ⟨b3, o3, e3, hc3⟩ := (R5.out.1.kp ((R6.out.2.trans K7.out).trans HI.out) (fun _ _ h => h)) i (by unfold intsZ; rw [List.length_map]; exact hiR)
            have e0 : (intsZ R).getD i undef = .int .i64 (R.getD i 0) := by
              unfold intsZ
              rw [List.getD_eq_getElem?_getD, List.getElem?_map, List.getD_eq_getElem?_getD, List.getElem?_eq_getElem hiR]; rfl
            rw [e0, hnum] at hc3
            subst e3
            have hum : ∀ j, j < x → (pkn l j).num ≠ (pkn l x).num := fun j hj => HK.out.2.1 x j (by rw [H.out.2]; exact hx) hj
            have CF := Lib.hid (fun w' (k : Kp (fun _ => False) w7 w') => find_yes a n c l H.out.2 x (by rw [H.out.2]; exact hx) (pkn l x).num rfl hum w' (H.out.1.kp0 ((KQ.out.trans K7.out).trans k)) (by omega))
            obtain ⟨p, hp⟩ : ∃ p, p = pkn l x := ⟨_, rfl⟩
            rw [← hp] at hc3 hbx hall CF
            have HX := Lib.hid (And.intro hbx hall)
            clear hbx hall hum hnum e0 hx hp hiR
            go_wp2_with fail
            go_at_call 21
            refine (CF.out _ HI.out).mono ?_
            rintro e w8 ⟨rfl, k8⟩
            have K8 := Lib.hid k8
            clear k8 CF hc3
            go_upto_region 22 with fail
            refine wp_world (fun wx => At wx w8.heap.size [.int .i64 p.num, .int .i64 p.bytes, .int .i64 p.dead] ∧ Kp (fun _ => False) w8 wx) ⟨At.new w8 [.int .i64 p.num, .int .i64 p.bytes, .int .i64 p.dead] _, (Kp.refl _ w8).alloc _⟩ ?_
            rintro w9 ⟨hat, k9⟩
            obtain ⟨bq, hbq⟩ : ∃ bq, bq = w8.heap.size := ⟨_, rfl⟩
            rw [← hbq] at hat ⊢
            have z0 := (hat.cell 0).trans (show _ = some (.int .i64 p.num) from rfl)
            have z1 := (hat.cell 1).trans (show _ = some (.int .i64 p.bytes) from rfl)
            have z2 := (hat.cell 2).trans (show _ = some (.int .i64 p.dead) from rfl)
            have HAT := Lib.hid hat
            have K9 := Lib.hid k9
            clear hat k9 hbq
            go_wp2_with fail
            go_at_call 11
            refine (upart_any p _).mono ?_
            rintro e w10 ⟨r, rfl, hlk, k10⟩
            have K10 := Lib.hid k10
            have CB := Lib.hid (before_like (.inl rfl) hlk HX.out.1 w10)
            clear z0 z1 z2 hlk k10
            go_wp2_with fail
            go_at_call 20
            refine CB.out.mono ?_
            rintro e w11 ⟨rfl, k11⟩
            have K11 := Lib.hid ((K9.out.trans K10.out).trans k11)
            have RT := Lib.hid (show i = (R.take i).length ∧ Rd w11 (some ⟨b3, o3, none⟩) (intsZ (R.take i)) from ⟨by rw [List.length_take, ← HH.out.2.1]; omega, by
              unfold intsZ
              rw [List.map_take]
              exact (R5.out.1.kp ((((R6.out.2.trans K7.out).trans HI.out).trans K8.out).trans K11.out) (fun _ _ h => h)).take i⟩)
            have HAT11 := Lib.hid ((K10.out.trans k11).at HAT.out (fun h => h))
            clear k11 CB HAT
            go_wp2_with fail
            go_loopw [18] (fun kv wr => ∃ k : Nat, k ≤ n ∧ kv = .int .i64 k ∧ Kp (fun _ => False) w11 wr) (fun kv _ => n - (intOf kv).toNat)
            case atStart => exact ⟨0, by omega, rfl, Kp.refl _ _⟩
            case round =>
              obtain ⟨k, hk, rfl, hkk⟩ := hrel
              have HK2 := Lib.hid hkk
              clear hkk
              by_cases hkl : k < n
              · have j2 : (k : Int) < n := by omega
                obtain ⟨b2, o2, e2, y0, y1, y2⟩ := (H.out.1.kp0 (((((KQ.out.trans K7.out).trans HI.out).trans K8.out).trans K11.out).trans HK2.out)) k (by rw [← H.out.2]; exact hkl)
                subst e2
                have hall := HX.out.2 k (by rw [← H.out.2]; exact hkl)
                obtain ⟨q, hq⟩ : ∃ q, q = pkn l k := ⟨_, rfl⟩
                rw [← hq] at y0 y1 y2 hall
                have A := Lib.hid (And.intro y0 (And.intro y1 y2))
                have z := HK2.out.at HAT11.out (fun h => h)
                have PB := Lib.hid (And.intro ((z.cell 0).trans (show _ = some (.int .i64 p.num) from rfl)) (And.intro ((z.cell 1).trans (show _ = some (.int .i64 p.bytes) from rfl)) ((z.cell 2).trans (show _ = some (.int .i64 p.dead) from rfl))))
                have HRT := Lib.hid (And.intro RT.out.1 (RT.out.2.kp HK2.out (fun _ _ h => h)))
                clear y0 y1 y2 z hq
                go_upto_region 27 with fail
                cases hbb : bef (canP q) (canP p)
                · have BF := Lib.hid hbb
                  clear hbb hall
                  refine region_L (S := fun w' => Kp (fun _ => False) wr w') [] rfl ?_
                  have hSd : ∀ (w' : World) (n' : Nat), Kp (fun _ => False) wr w' → Kp (fun _ => False) wr (w'.drewN n') := fun w' n' h => h.drewN n'
                  have hS0 : Kp (fun _ => False) wr wr.drew := (Kp.refl _ wr).drew
                  refine anyL_world (fun w' => Kp (fun _ => False) wr w') hS0 ?_
                  clear hS0
                  intro x0 kx0
                  refine anyL_takeF (i := 0) (d := 122) (v := (.slice (some ⟨b2, o2, none⟩) n c)) rfl rfl (by kernel_rfl) (by kernel_rfl) (by kernel_rfl) (fun _ _ _ h => h) hSd (by kernel_rfl) (.inl (.inl ⟨rfl, fun w' hS => by first | rfl | go_simp⟩)) (fun _ => kx0) ?_
                  try simp only [List.setIfInBounds_toArray, List.set_cons_succ, List.set_cons_zero]
                  refine anyL_takeF (i := 1) (d := 123) (v := (.int .i64 (k : Nat))) rfl rfl (by kernel_rfl) (by kernel_rfl) (by kernel_rfl) (fun _ _ _ h => h) hSd (by kernel_rfl) (.inl (.inl ⟨rfl, fun w' hS => by first | rfl | go_simp⟩)) (fun _ => kx0) ?_
                  try simp only [List.setIfInBounds_toArray, List.set_cons_succ, List.set_cons_zero]
                  refine anyL_takeF (i := 2) (d := 124) (v := (.pointer (some ⟨b2, o2 + k * 3, none⟩))) rfl rfl (by kernel_rfl) (by kernel_rfl) (by kernel_rfl) (fun _ _ _ h => h) hSd (by kernel_rfl) (.inl (.inl ⟨rfl, fun w' hS => by first | rfl | go_simp⟩)) (fun _ => kx0) ?_
                  try simp only [List.setIfInBounds_toArray, List.set_cons_succ, List.set_cons_zero]
                  refine anyL_takeD (i := 3) (d := 125) (v := (.agg #[.int .i64 q.num, .int .i64 q.bytes, .int .i64 q.dead])) rfl rfl (by kernel_rfl) (by kernel_rfl) (by kernel_rfl) (fun _ _ _ h => h) hSd (by kernel_rfl) (.inl (.inl ⟨rfl, fun w' hS => by have h0 := hS.cell A.out.1 (fun h => h); have h1 := hS.cell A.out.2.1 (fun h => h); have h2 := hS.cell A.out.2.2 (fun h => h); go_simp⟩)) kx0 ?_
                  try simp only [List.setIfInBounds_toArray, List.set_cons_succ, List.set_cons_zero]
                  refine anyL_takeD (i := 5) (d := 127) (v := (.agg #[.int .i64 p.num, .int .i64 p.bytes, .int .i64 p.dead])) rfl rfl (by kernel_rfl) (by kernel_rfl) (by kernel_rfl) (fun _ _ _ h => h) hSd (by kernel_rfl) (.inl (.inl ⟨rfl, fun w' hS => by have h0 := hS.cell PB.out.1 (fun h => h); have h1 := hS.cell PB.out.2.1 (fun h => h); have h2 := hS.cell PB.out.2.2 (fun h => h); go_simp⟩)) kx0 ?_
                  try simp only [List.setIfInBounds_toArray, List.set_cons_succ, List.set_cons_zero]
                  refine anyL_all (rs := [4]) (by kernel_rfl) (by simp) ?_
                  intro n4 i hi
                  simp only [List.mem_cons, List.not_mem_nil, or_false] at hi
                  obtain rfl := hi
                  refine wpOp_of rfl rfl ?_
                  go_simp
                  refine Calls.mono (upart_any q (x0.drewN n4)) ?_
                  rintro e x1 ⟨r1, rfl, h1, j⟩
                  try dsimp only
                  have kx1 : Kp (fun _ => False) wr x1 := (kx0.drewN n4).trans j
                  refine ⟨fun _ => kx1, ?_⟩
                  try simp only [List.setIfInBounds_toArray, List.set_cons_succ, List.set_cons_zero]
                  refine anyL_all (rs := [6]) (by kernel_rfl) (by simp) ?_
                  intro n6 i hi
                  simp only [List.mem_cons, List.not_mem_nil, or_false] at hi
                  obtain rfl := hi
                  refine wpOp_of rfl rfl ?_
                  go_simp
                  refine Calls.mono (upart_any p (x1.drewN n6)) ?_
                  rintro e x2 ⟨r2, rfl, h2, j⟩
                  try dsimp only
                  have kx2 : Kp (fun _ => False) wr x2 := (kx1.drewN n6).trans j
                  refine ⟨fun _ => kx2, ?_⟩
                  try simp only [List.setIfInBounds_toArray, List.set_cons_succ, List.set_cons_zero]
                  refine anyL_all (rs := [7]) (by kernel_rfl) (by simp) ?_
                  intro n7 i hi
                  simp only [List.mem_cons, List.not_mem_nil, or_false] at hi
                  obtain rfl := hi
                  refine wpOp_of rfl rfl ?_
                  go_simp
                  refine Calls.mono (before_like h1 h2 BF.out (x2.drewN n7)) ?_
                  rintro e x3 ⟨rfl, j⟩
                  try dsimp only
                  have kx3 : Kp (fun _ => False) wr x3 := (kx2.drewN n7).trans j
                  refine ⟨fun _ => kx3, ?_⟩
                  try simp only [List.setIfInBounds_toArray, List.set_cons_succ, List.set_cons_zero]
                  refine anyL_takeF (i := 8) (d := 130) (v := (.bool false)) rfl rfl (by kernel_rfl) (by kernel_rfl) (by kernel_rfl) (fun _ _ _ h => h) hSd (by kernel_rfl) (.inl (.inl ⟨rfl, fun w' hS => by first | rfl | go_simp⟩)) (fun _ => kx3) ?_
                  try simp only [List.setIfInBounds_toArray, List.set_cons_succ, List.set_cons_zero]
                  refine anyL_takeF (i := 9) (d := 131) (v := undef) rfl rfl (by kernel_rfl) (by kernel_rfl) (by kernel_rfl) (fun _ _ _ h => h) hSd (by kernel_rfl) (.inl (.inr ⟨rfl, rfl⟩)) (fun _ => kx3) ?_
                  try simp only [List.setIfInBounds_toArray, List.set_cons_succ, List.set_cons_zero]
                  refine anyL_takeF (i := 10) (d := 132) (v := undef) rfl rfl (by kernel_rfl) (by kernel_rfl) (by kernel_rfl) (fun _ _ _ h => h) hSd (by kernel_rfl) (.inl (.inr ⟨rfl, rfl⟩)) (fun _ => kx3) ?_
                  try simp only [List.setIfInBounds_toArray, List.set_cons_succ, List.set_cons_zero]
                  refine anyL_takeF (i := 11) (d := 133) (v := undef) rfl rfl (by kernel_rfl) (by kernel_rfl) (by kernel_rfl) (fun _ _ _ h => h) hSd (by kernel_rfl) (.inl (.inr ⟨rfl, rfl⟩)) (fun _ => kx3) ?_
                  try simp only [List.setIfInBounds_toArray, List.set_cons_succ, List.set_cons_zero]
                  refine anyL_takeF (i := 12) (d := 134) (v := undef) rfl rfl (by kernel_rfl) (by kernel_rfl) (by kernel_rfl) (fun _ _ _ h => h) hSd (by kernel_rfl) (.inl (.inr ⟨rfl, rfl⟩)) (fun _ => kx3) ?_
                  try simp only [List.setIfInBounds_toArray, List.set_cons_succ, List.set_cons_zero]
                  refine anyL_takeF (i := 13) (d := 135) (v := undef) rfl rfl (by kernel_rfl) (by kernel_rfl) (by kernel_rfl) (fun _ _ _ h => h) hSd (by kernel_rfl) (.inl (.inr ⟨rfl, rfl⟩)) (fun _ => kx3) ?_
                  try simp only [List.setIfInBounds_toArray, List.set_cons_succ, List.set_cons_zero]
                  refine anyL_takeF (i := 14) (d := 136) (v := undef) rfl rfl (by kernel_rfl) (by kernel_rfl) (by kernel_rfl) (fun _ _ _ h => h) hSd (by kernel_rfl) (.inl (.inr ⟨rfl, rfl⟩)) (fun _ => kx3) ?_
                  try simp only [List.setIfInBounds_toArray, List.set_cons_succ, List.set_cons_zero]
                  refine anyL_takeF (i := 15) (d := 137) (v := undef) rfl rfl (by kernel_rfl) (by kernel_rfl) (by kernel_rfl) (fun _ _ _ h => h) hSd (by kernel_rfl) (.inl (.inr ⟨rfl, rfl⟩)) (fun _ => kx3) ?_
                  try simp only [List.setIfInBounds_toArray, List.set_cons_succ, List.set_cons_zero]
                  refine anyL_takeF (i := 16) (d := 138) (v := undef) rfl rfl (by kernel_rfl) (by kernel_rfl) (by kernel_rfl) (fun _ _ _ h => h) hSd (by kernel_rfl) (.inl (.inr ⟨rfl, rfl⟩)) (fun _ => kx3) ?_
                  try simp only [List.setIfInBounds_toArray, List.set_cons_succ, List.set_cons_zero]
                  refine anyL_takeF (i := 17) (d := 139) (v := undef) rfl rfl (by kernel_rfl) (by kernel_rfl) (by kernel_rfl) (fun _ _ _ h => h) hSd (by kernel_rfl) (.inl (.inr ⟨rfl, rfl⟩)) (fun _ => kx3) ?_
                  try simp only [List.setIfInBounds_toArray, List.set_cons_succ, List.set_cons_zero]
                  refine anyL_takeF (i := 18) (d := 140) (v := undef) rfl rfl (by kernel_rfl) (by kernel_rfl) (by kernel_rfl) (fun _ _ _ h => h) hSd (by kernel_rfl) (.inl (.inr ⟨rfl, rfl⟩)) (fun _ => kx3) ?_
                  try simp only [List.setIfInBounds_toArray, List.set_cons_succ, List.set_cons_zero]
                  refine anyL_takeF (i := 19) (d := 141) (v := (.bool false)) rfl rfl (by kernel_rfl) (by kernel_rfl) (by kernel_rfl) (fun _ _ _ h => h) hSd (by kernel_rfl) (.inl (.inl ⟨rfl, fun w' hS => by first | rfl | go_simp⟩)) (fun _ => kx3) ?_
                  try simp only [List.setIfInBounds_toArray, List.set_cons_succ, List.set_cons_zero]
                  refine anyL_done (by kernel_rfl) (fun nn => ?_) _
                  have kw9 := kx3.drewN nn
                  generalize x3.drewN nn = wz at *
                  have K12 := Lib.hid kw9
                  clear kw9 hSd A PB HRT h1 h2
                  go_wp2
                  go_roundw
                  case rel => exact ⟨k + 1, by omega, by go_num, HK2.out.trans K12.out⟩
                  case measure => simp [intOf]; omega
                · have BF := Lib.hid hbb
                  have IN := Lib.hid (hall hbb)
                  clear hbb hall
                  refine region_L (S := fun w' => Kp (fun _ => False) wr w') [] rfl ?_
                  have hSd : ∀ (w' : World) (n' : Nat), Kp (fun _ => False) wr w' → Kp (fun _ => False) wr (w'.drewN n') := fun w' n' h => h.drewN n'
                  have hS0 : Kp (fun _ => False) wr wr.drew := (Kp.refl _ wr).drew
                  refine anyL_world (fun w' => Kp (fun _ => False) wr w') hS0 ?_
                  clear hS0
                  intro x0 kx0
                  refine anyL_takeF (i := 0) (d := 122) (v := (.slice (some ⟨b2, o2, none⟩) n c)) rfl rfl (by kernel_rfl) (by kernel_rfl) (by kernel_rfl) (fun _ _ _ h => h) hSd (by kernel_rfl) (.inl (.inl ⟨rfl, fun w' hS => by first | rfl | go_simp⟩)) (fun _ => kx0) ?_
                  try simp only [List.setIfInBounds_toArray, List.set_cons_succ, List.set_cons_zero]
                  refine anyL_takeF (i := 1) (d := 123) (v := (.int .i64 (k : Nat))) rfl rfl (by kernel_rfl) (by kernel_rfl) (by kernel_rfl) (fun _ _ _ h => h) hSd (by kernel_rfl) (.inl (.inl ⟨rfl, fun w' hS => by first | rfl | go_simp⟩)) (fun _ => kx0) ?_
                  try simp only [List.setIfInBounds_toArray, List.set_cons_succ, List.set_cons_zero]
                  refine anyL_takeF (i := 2) (d := 124) (v := (.pointer (some ⟨b2, o2 + k * 3, none⟩))) rfl rfl (by kernel_rfl) (by kernel_rfl) (by kernel_rfl) (fun _ _ _ h => h) hSd (by kernel_rfl) (.inl (.inl ⟨rfl, fun w' hS => by first | rfl | go_simp⟩)) (fun _ => kx0) ?_
                  try simp only [List.setIfInBounds_toArray, List.set_cons_succ, List.set_cons_zero]
                  refine anyL_takeD (i := 3) (d := 125) (v := (.agg #[.int .i64 q.num, .int .i64 q.bytes, .int .i64 q.dead])) rfl rfl (by kernel_rfl) (by kernel_rfl) (by kernel_rfl) (fun _ _ _ h => h) hSd (by kernel_rfl) (.inl (.inl ⟨rfl, fun w' hS => by have h0 := hS.cell A.out.1 (fun h => h); have h1 := hS.cell A.out.2.1 (fun h => h); have h2 := hS.cell A.out.2.2 (fun h => h); go_simp⟩)) kx0 ?_
                  try simp only [List.setIfInBounds_toArray, List.set_cons_succ, List.set_cons_zero]
                  refine anyL_takeD (i := 5) (d := 127) (v := (.agg #[.int .i64 p.num, .int .i64 p.bytes, .int .i64 p.dead])) rfl rfl (by kernel_rfl) (by kernel_rfl) (by kernel_rfl) (fun _ _ _ h => h) hSd (by kernel_rfl) (.inl (.inl ⟨rfl, fun w' hS => by have h0 := hS.cell PB.out.1 (fun h => h); have h1 := hS.cell PB.out.2.1 (fun h => h); have h2 := hS.cell PB.out.2.2 (fun h => h); go_simp⟩)) kx0 ?_
                  try simp only [List.setIfInBounds_toArray, List.set_cons_succ, List.set_cons_zero]
                  refine anyL_all (rs := [4]) (by kernel_rfl) (by simp) ?_
                  intro n4 i hi
                  simp only [List.mem_cons, List.not_mem_nil, or_false] at hi
                  obtain rfl := hi
                  refine wpOp_of rfl rfl ?_
                  go_simp
                  refine Calls.mono (upart_any q (x0.drewN n4)) ?_
                  rintro e x1 ⟨r1, rfl, h1, j⟩
                  try dsimp only
                  have kx1 : Kp (fun _ => False) wr x1 := (kx0.drewN n4).trans j
                  refine ⟨fun _ => kx1, ?_⟩
                  try simp only [List.setIfInBounds_toArray, List.set_cons_succ, List.set_cons_zero]
                  refine anyL_all (rs := [6]) (by kernel_rfl) (by simp) ?_
                  intro n6 i hi
                  simp only [List.mem_cons, List.not_mem_nil, or_false] at hi
                  obtain rfl := hi
                  refine wpOp_of rfl rfl ?_
                  go_simp
                  refine Calls.mono (upart_any p (x1.drewN n6)) ?_
                  rintro e x2 ⟨r2, rfl, h2, j⟩
                  try dsimp only
                  have kx2 : Kp (fun _ => False) wr x2 := (kx1.drewN n6).trans j
                  refine ⟨fun _ => kx2, ?_⟩
                  try simp only [List.setIfInBounds_toArray, List.set_cons_succ, List.set_cons_zero]
                  refine anyL_all (rs := [7]) (by kernel_rfl) (by simp) ?_
                  intro n7 i hi
                  simp only [List.mem_cons, List.not_mem_nil, or_false] at hi
                  obtain rfl := hi
                  refine wpOp_of rfl rfl ?_
                  go_simp
                  refine Calls.mono (before_like h1 h2 BF.out (x2.drewN n7)) ?_
                  rintro e x3 ⟨rfl, j⟩
                  try dsimp only
                  have kx3 : Kp (fun _ => False) wr x3 := (kx2.drewN n7).trans j
                  refine ⟨fun _ => kx3, ?_⟩
                  try simp only [List.setIfInBounds_toArray, List.set_cons_succ, List.set_cons_zero]
                  refine anyL_takeF (i := 8) (d := 130) (v := (.bool true)) rfl rfl (by kernel_rfl) (by kernel_rfl) (by kernel_rfl) (fun _ _ _ h => h) hSd (by kernel_rfl) (.inl (.inl ⟨rfl, fun w' hS => by first | rfl | go_simp⟩)) (fun _ => kx3) ?_
                  try simp only [List.setIfInBounds_toArray, List.set_cons_succ, List.set_cons_zero]
                  refine anyL_takeF (i := 9) (d := 131) (v := (.slice (some ⟨b3, o3, none⟩) m c5)) rfl rfl (by kernel_rfl) (by kernel_rfl) (by kernel_rfl) (fun _ _ _ h => h) hSd (by kernel_rfl) (.inl (.inl ⟨rfl, fun w' hS => by first | rfl | go_simp⟩)) (fun _ => kx3) ?_
                  try simp only [List.setIfInBounds_toArray, List.set_cons_succ, List.set_cons_zero]
                  refine anyL_takeF (i := 10) (d := 132) (v := (.int .i64 (i : Nat))) rfl rfl (by kernel_rfl) (by kernel_rfl) (by kernel_rfl) (fun _ _ _ h => h) hSd (by kernel_rfl) (.inl (.inl ⟨rfl, fun w' hS => by first | rfl | go_simp⟩)) (fun _ => kx3) ?_
                  try simp only [List.setIfInBounds_toArray, List.set_cons_succ, List.set_cons_zero]
                  refine anyL_takeF (i := 11) (d := 133) (v := (.slice (some ⟨b3, o3, none⟩) i c5)) rfl rfl (by kernel_rfl) (by kernel_rfl) (by kernel_rfl) (fun _ _ _ h => h) hSd (by kernel_rfl) (.inl (.inl ⟨rfl, fun w' hS => by have hq : ¬ c5 < i := (by omega); go_simp⟩)) (fun _ => kx3) ?_
                  try simp only [List.setIfInBounds_toArray, List.set_cons_succ, List.set_cons_zero]
                  refine anyL_takeF (i := 12) (d := 134) (v := (.slice (some ⟨b2, o2, none⟩) n c)) rfl rfl (by kernel_rfl) (by kernel_rfl) (by kernel_rfl) (fun _ _ _ h => h) hSd (by kernel_rfl) (.inl (.inl ⟨rfl, fun w' hS => by first | rfl | go_simp⟩)) (fun _ => kx3) ?_
                  try simp only [List.setIfInBounds_toArray, List.set_cons_succ, List.set_cons_zero]
                  refine anyL_takeF (i := 13) (d := 135) (v := (.int .i64 (k : Nat))) rfl rfl (by kernel_rfl) (by kernel_rfl) (by kernel_rfl) (fun _ _ _ h => h) hSd (by kernel_rfl) (.inl (.inl ⟨rfl, fun w' hS => by first | rfl | go_simp⟩)) (fun _ => kx3) ?_
                  try simp only [List.setIfInBounds_toArray, List.set_cons_succ, List.set_cons_zero]
                  refine anyL_takeF (i := 14) (d := 136) (v := (.pointer (some ⟨b2, o2 + k * 3, none⟩))) rfl rfl (by kernel_rfl) (by kernel_rfl) (by kernel_rfl) (fun _ _ _ h => h) hSd (by kernel_rfl) (.inl (.inl ⟨rfl, fun w' hS => by first | rfl | go_simp⟩)) (fun _ => kx3) ?_
                  try simp only [List.setIfInBounds_toArray, List.set_cons_succ, List.set_cons_zero]
                  refine anyL_takeF (i := 15) (d := 137) (v := (.pointer (some ⟨b2, o2 + k * 3, none⟩))) rfl rfl (by kernel_rfl) (by kernel_rfl) (by kernel_rfl) (fun _ _ _ h => h) hSd (by kernel_rfl) (.inl (.inl ⟨rfl, fun w' hS => by first | rfl | go_simp⟩)) (fun _ => kx3) ?_
                  try simp only [List.setIfInBounds_toArray, List.set_cons_succ, List.set_cons_zero]
                  refine anyL_takeD (i := 16) (d := 138) (v := (.int .i64 q.num)) rfl rfl (by kernel_rfl) (by kernel_rfl) (by kernel_rfl) (fun _ _ _ h => h) hSd (by kernel_rfl) (.inl (.inl ⟨rfl, fun w' hS => by have h0 := hS.cell A.out.1 (fun h => h); go_simp⟩)) kx3 ?_
                  try simp only [List.setIfInBounds_toArray, List.set_cons_succ, List.set_cons_zero]
                  refine anyL_all (rs := [17]) (by kernel_rfl) (by simp) ?_
                  intro n17 i hi
                  simp only [List.mem_cons, List.not_mem_nil, or_false] at hi
                  obtain rfl := hi
                  refine wpOp_of rfl rfl ?_
                  go_simp
                  refine Calls.mono (chosen_in (some ⟨b3, o3, none⟩) i c5 (R.take i) HRT.out.1 q.num IN.out (x3.drewN n17) (HRT.out.2.kp (kx3.drewN n17) (fun _ _ h => h)) (by omega)) ?_
                  rintro e x4 ⟨rfl, j⟩
                  try dsimp only
                  have kx4 : Kp (fun _ => False) wr x4 := (kx3.drewN n17).trans j
                  refine ⟨fun _ => kx4, ?_⟩
                  try simp only [List.setIfInBounds_toArray, List.set_cons_succ, List.set_cons_zero]
                  refine anyL_takeF (i := 18) (d := 140) (v := (.bool false)) rfl rfl (by kernel_rfl) (by kernel_rfl) (by kernel_rfl) (fun _ _ _ h => h) hSd (by kernel_rfl) (.inl (.inl ⟨rfl, fun w' hS => by first | rfl | go_simp⟩)) (fun _ => kx4) ?_
                  try simp only [List.setIfInBounds_toArray, List.set_cons_succ, List.set_cons_zero]
                  refine anyL_takeF (i := 19) (d := 141) (v := (.bool false)) rfl rfl (by kernel_rfl) (by kernel_rfl) (by kernel_rfl) (fun _ _ _ h => h) hSd (by kernel_rfl) (.inl (.inl ⟨rfl, fun w' hS => by first | rfl | go_simp⟩)) (fun _ => kx4) ?_
                  try simp only [List.setIfInBounds_toArray, List.set_cons_succ, List.set_cons_zero]
                  refine anyL_done (by kernel_rfl) (fun nn => ?_) _
                  have kw9 := kx4.drewN nn
                  generalize x4.drewN nn = wz at *
                  have K12 := Lib.hid kw9
                  clear kw9 hSd A PB HRT h1 h2
                  go_wp2
                  go_roundw
                  case rel => exact ⟨k + 1, by omega, by go_num, HK2.out.trans K12.out⟩
                  case measure => simp [intOf]; omega
              · obtain rfl : n = k := by omega
                clear hkl
                go_wp2
                go_roundw
                case rel => exact ⟨i + 1, by omega, by go_num, ((HI.out.trans K8.out).trans K11.out).trans HK2.out⟩
                case measure => simp [intOf]; omega
          · obtain rfl : m = i := by omega
            clear hlt
            go_wp2_with fail
            go_ret
            exact ⟨rfl, ((KQ.out.trans K7.out).trans HI.out).below (fun _ _ h => h)⟩
theorem refsWorst_walk (a0 : Option Addr) (len0 cap0 : Nat) (x1 : Nat) (n2 n3 : Int) (w : World) (r0 : Rdg Try.prog w 22 [.slice a0 len0 cap0]) (r1 : Rdg Try.prog w 23 (Value.float .f64 x1).cells.toList) (r2 : Rdg Try.prog w 3 (Value.int .i64 n2).cells.toList) (r3 : Rdg Try.prog w 3 (Value.int .i64 n3).cells.toList) :
    Calls Try.prog 5 #[.slice a0 len0 cap0, .float .f64 x1, .int .i64 n2, .int .i64 n3] w fun e w' => e = .returned (.bool true) ∧ Below w.heap.size w w' := by
  obtain ⟨a, l, cap, e, hr, _, _, _⟩ := open_pks r0
  simp only [List.cons.injEq, Value.slice.injEq, and_true] at e
  obtain ⟨rfl, rfl, rfl⟩ := e
  by_cases h : 100 < l.length
  · exact refsWorst_long _ _ _ _ _ _ _ h
  · by_cases h2 : n3 < n2
    · exact refsWorst_more _ _ _ _ _ _ _ (by omega) h2
    · exact refsWorst_main _ _ _ l _ _ _ _ hr rfl (by omega) (by omega)
end Go.Proofs.Ytaibdkdmilhloaa
