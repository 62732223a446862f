/- The walk of NetOrder: it returns true, whatever comes in. No condition. (Written by wip/netorder.py.) -/
import Derived.Test.YtgcgcdgjooaipaaOws
namespace Go.Proofs.Ytgcgcdgjooaipaa
open Go.RowKit
set_option linter.unusedVariables false
set_option linter.unusedSimpArgs false
theorem pick_nat (z : Int) (m : Nat) (hz : -9223372036854775808 ≤ z ∧ z ≤ 9223372036854775807) (hm : 0 < m) (hm2 : m ≤ 100000) : ∃ p : Nat, p < m ∧ ∀ w', Calls Try.prog 15 #[.int .i64 z, .int .i64 m] w' fun e w'' => e = .returned (.int .i64 p) ∧ w' = w'' := by
  have h1 := Int.emod_nonneg z (show (m : Int) ≠ 0 by omega)
  have h2 := Int.emod_lt_of_pos z (show (0 : Int) < m by omega)
  refine ⟨(z % m).toNat, by omega, fun w' => (pick_any z m w' hz (by omega)).mono ?_⟩
  rintro e w'' ⟨rfl, rfl⟩
  exact ⟨by rw [Int.toNat_of_nonneg h1], rfl⟩
theorem tot_bd (ds : List Nd) (q : Nat) (hq : q ≤ 41) (h : ∀ i, (nd ds i).l.length ≤ 140737488351232) : tot ds q ≤ 5770237022400512 := by
  have := tot_le ds _ h q
  have := Nat.mul_le_mul_right 140737488351232 hq
  omega
set_option maxHeartbeats 4000000 in
set_option maxRecDepth 20000 in
theorem order_long (a : Option Addr) (ds : List Nd) (cap n : Nat) (hnn : n = ds.length) (i0 k0 bit : Int) (w : World) (hr : RdD w a ds) (hm : ∀ i, (nd ds i).l.length ≤ 140737488351232) (hl : 40 < n ∨ 3000 < tot ds n) :
    Calls Try.prog 3 #[.slice a n cap, .int .i64 i0, .int .i64 k0, .int .i64 bit] w fun e w' => e = .returned (.bool true) ∧ Below w.heap.size w w' := by
  have AW := Lib.hid (fun w' => awake_any w')
  have CN := Lib.hid (fun w' (k : Kp (fun _ => False) w w') => (st_new w').mono (fun e w'' h => (⟨h.choose, h.choose_spec.choose, h.choose_spec.choose_spec.1, k.trans h.choose_spec.choose_spec.2.k⟩ : ∃ nb mb, e = .returned (.pointer (some ⟨nb, 0, none⟩)) ∧ Kp (fun _ => False) w w'')))
  have H := Lib.hid (And.intro hr (And.intro hm (And.intro hl hnn)))
  clear hr hm hl hnn
  go_enter Try.func3, Try.ntmps3
  go_wp2_with (first | (go_at_call 9; (with_reducible refine (AW.out _).mono ?_); rintro e w1 ⟨rfl, k1⟩; have K1 := Lib.hid k1; clear k1) |
    (go_at_call 10; (with_reducible refine (CN.out _ K1.out).mono ?_); rintro e w2 ⟨nb, mb, rfl, k2⟩; have K2 := Lib.hid k2; clear k2))
  go_loopw [11, 12] (fun s j wr => ∃ q : Nat, q ≤ n ∧ q ≤ 41 ∧ s = .int .i64 (tot ds q : Nat) ∧ j = .int .i64 q ∧ w2 = wr) (fun _ j _ => 41 - (intOf j).toNat)
  case atStart => exact ⟨0, by omega, by omega, rfl, rfl, by simp⟩
  case round =>
    obtain ⟨q, hq1, hq2, rfl, rfl, rfl⟩ := hrel
    by_cases hlt : q < n ∧ q < 41
    · have j1 : (q : Int) < n := by omega
      have j2 : (q : Int) < 41 := by omega
      obtain ⟨b1, o1, a1, c1, rfl, f0, f1, f2, r1, _⟩ := H.out.1.kp0 K2.out (fun _ _ h => h) q (by rw [← H.out.2.2.2]; exact hlt.1)
      have hb1 := H.out.2.1 q
      have hb2 := tot_bd ds q hq2 H.out.2.1
      have HS := Lib.hid (show tot ds q + (nd ds q).l.length = tot ds (q + 1) from rfl)
      clear r1 f0 f1 hlt
      generalize tot ds q = t at *
      generalize (nd ds q).l.length = m at *
      go_wp2
      go_roundw
      case rel => exact ⟨q + 1, by omega, by omega, by rw [← HS.out]; go_num, by go_num, trivial⟩
      case measure => simp [intOf]; omega
    · have hend : n ≤ q ∨ 40 < n := by omega
      have K2t := Lib.hid hend
      by_cases h40 : 40 < n
      · have j3 : (40 : Int) < n := by omega
        by_cases hqn : q < n
        · have j1 : (q : Int) < n := by omega
          have j2 : ¬ (q : Int) < 41 := by omega
          clear hq1 hq2 hlt hend h40 hqn
          go_wp2
          go_ret
          exact ⟨rfl, K2.out.below (fun _ _ h => h)⟩
        · have j1 : ¬ (q : Int) < n := by omega
          clear hq1 hq2 hlt hend h40 hqn
          go_wp2
          go_ret
          exact ⟨rfl, K2.out.below (fun _ _ h => h)⟩
      · obtain rfl : q = n := by omega
        have j4 : (3000 : Int) < (tot ds q : Nat) := by have := H.out.2.2.1; omega
        have j3 : ¬ (40 : Int) < q := by omega
        clear hq1 hq2 hlt hend h40
        go_wp2
        go_ret
        exact ⟨rfl, K2.out.below (fun _ _ h => h)⟩
set_option maxHeartbeats 8000000 in
set_option maxRecDepth 20000 in
theorem order_main (a : Option Addr) (ds : List Nd) (cap n : Nat) (hnn : n = ds.length) (i0 k0 bit : Int) (w : World) (hr : RdD w a ds) (hm : ∀ i, (nd ds i).l.length ≤ 140737488351232) (hi : n ≤ 40) (hl : tot ds n ≤ 3000)
    (h0 : -9223372036854775808 ≤ i0 ∧ i0 ≤ 9223372036854775807) (h1 : -9223372036854775808 ≤ k0 ∧ k0 ≤ 9223372036854775807) (h2 : -9223372036854775808 ≤ bit ∧ bit ≤ 9223372036854775807) :
    Calls Try.prog 3 #[.slice a n cap, .int .i64 i0, .int .i64 k0, .int .i64 bit] w fun e w' => e = .returned (.bool true) ∧ Below w.heap.size w w' := by
  have AW := Lib.hid (fun w' => awake_any w')
  have CN := Lib.hid (fun w' (k : Kp (fun _ => False) w w') => (st_new w').mono (fun e w'' h => (⟨h.choose, h.choose_spec.choose, h.choose_spec.choose_spec.1, ⟨h.choose_spec.choose_spec.2.n, fun b hb => Nat.le_trans k.size (h.choose_spec.choose_spec.2.ge b hb), k.trans h.choose_spec.choose_spec.2.k⟩⟩ : ∃ nb mb, e = .returned (.pointer (some ⟨nb, 0, none⟩)) ∧ St w w'' nb mb [] 0 0 (fun _ => false))))
  have PK := Lib.hid (fun (z : Int) (m : Nat) (hz : -9223372036854775808 ≤ z ∧ z ≤ 9223372036854775807) (hm : 0 < m) (hm2 : m ≤ 100000) => pick_nat z m hz hm hm2)
  have H := Lib.hid (And.intro hr (And.intro hm (And.intro hl hnn)))
  have HB := Lib.hid (And.intro h0 (And.intro h1 h2))
  have N40 := Lib.hid hi
  clear hr hm hl hnn h0 h1 h2 hi
  go_enter Try.func3, Try.ntmps3
  go_wp2_with (first | (go_at_call 9; (with_reducible refine (AW.out _).mono ?_); rintro e w1 ⟨rfl, k1⟩; have K1 := Lib.hid k1; clear k1) |
    (go_at_call 10; (with_reducible refine (CN.out _ K1.out).mono ?_); rintro e w2 ⟨nb, mb, rfl, s2⟩; have S2 := Lib.hid s2; have K2 := Lib.hid s2.k; clear s2))
  go_loopw [11, 12] (fun s j wr => ∃ q : Nat, q ≤ n ∧ q ≤ 41 ∧ s = .int .i64 (tot ds q : Nat) ∧ j = .int .i64 q ∧ w2 = wr) (fun _ j _ => 41 - (intOf j).toNat)
  case atStart => exact ⟨0, by omega, by omega, rfl, rfl, by simp⟩
  case round =>
    obtain ⟨q, hq1, hq2, rfl, rfl, rfl⟩ := hrel
    by_cases hlt : q < n ∧ q < 41
    · have j1 : (q : Int) < n := by omega
      have j2 : (q : Int) < 41 := by omega
      obtain ⟨b1, o1, a1, c1, rfl, f0, f1, f2, r1, _⟩ := H.out.1.kp0 K2.out (fun _ _ h => h) q (by rw [← H.out.2.2.2]; exact hlt.1)
      have hb1 := H.out.2.1 q
      have hb2 := tot_bd ds q hq2 H.out.2.1
      have HS := Lib.hid (show tot ds q + (nd ds q).l.length = tot ds (q + 1) from rfl)
      clear r1 f0 f1 hlt
      generalize tot ds q = t at *
      generalize (nd ds q).l.length = m at *
      go_wp2
      go_roundw
      case rel => exact ⟨q + 1, by omega, by omega, by rw [← HS.out]; go_num, by go_num, trivial⟩
      case measure => simp [intOf]; omega
    · obtain rfl : q = n := by have := N40.out; omega
      have j4 : ¬ (3000 : Int) < (tot ds q : Nat) := by have := H.out.2.2.1; omega
      have j3 : ¬ (40 : Int) < q := by have := N40.out; omega
      clear hq1 hq2 hlt
      generalize tot ds q = t at *
      go_wp2
      go_loopw [13, 14] (fun v j wr => ∃ (u : Nat) (es nds : List Nd) (A : Option Addr) (c : Nat), u ≤ q ∧ es.length ≤ u ∧ v = .slice A es.length c ∧ j = .int .i64 u ∧ Ow w wr nb mb (.slice A es.length c) es nds ∧ nds.map dkey = es.map dkey) (fun _ j _ => 40 - (intOf j).toNat)
      case atStart => exact ⟨0, [], [], none, 0, by omega, by simp, rfl, rfl, ow_new S2.out, rfl⟩
      case round =>
        obtain ⟨u, es, nds, A, c, hu1, hu2, rfl, rfl, hO, hkk⟩ := hrel
        have hKL : nds.length = es.length := by simpa using congrArg List.length hkk
        have O := Lib.hid hO
        have HK := Lib.hid (And.intro hkk (And.intro hKL hu2))
        clear hO hkk hKL
        by_cases hlt : u < q
        · have j1 : (u : Int) < q := by omega
          obtain ⟨b1, o1, a1, c1, rfl, f0, f1, f2, r1, hc1⟩ := H.out.1 u (by rw [← H.out.2.2.2]; exact hlt)
          have g0 := O.out.st.k.cell f0 (fun h => h)
          have g1 := O.out.st.k.cell f1 (fun h => h)
          have g2 := O.out.st.k.cell f2 (fun h => h)
          have G := Lib.hid (And.intro f0 (And.intro f1 (And.intro f2 (And.intro r1 hc1))))
          have CS := Lib.hid (ow_send O.out (nd ds u).fr (nd ds u).to a1 _ c1 (nd ds u).l rfl (r1.kp0 O.out.st.k (fun _ _ h => h)) (by have := N40.out; have := HK.out.2.1; omega))
          have HA := Lib.hid (fun w' nds' (h : Ow w w' nb mb (.slice A es.length c) es nds') => ow_app h (nd ds u).fr (nd ds u).to a1 _ c1 (nd ds u).l rfl r1 hc1 (by have := N40.out; omega))
          have HL := Lib.hid (rfl : dkey (nd ds u) = ((nd ds u).fr, (nd ds u).to, (nd ds u).l))
          clear f0 f1 f2 r1 hc1
          have hel : es.length ≤ u := hu2
          generalize hfr : (nd ds u).fr = fr at *
          generalize hto : (nd ds u).to = to at *
          generalize hll : (nd ds u).l.length = m at *
          have HFT := Lib.hid (And.intro hfr (And.intro hto hll))
          clear hfr hto hll
          go_wp2_with fail
          go_at_call 11
          (with_reducible refine (CS.out).mono ?_)
          rintro e w3 ⟨r, nds', rfl, hO3, (⟨hr0, hk3⟩ | ⟨hr0, hk3⟩)⟩
          · have e0 := hO3.st.k.cell G.out.1 (fun h => h)
            have e1 := hO3.st.k.cell G.out.2.1 (fun h => h)
            have e2 := hO3.st.k.cell G.out.2.2.1 (fun h => h)
            obtain ⟨v', w4, hrun, hO4⟩ := HA.out _ _ hO3
            obtain ⟨A4, c4, rfl, _, _⟩ := hO4.fg.rdd hO4.st.k
            have HR := Lib.hid hrun
            have O4 := Lib.hid hO4
            have HK3 := Lib.hid hk3
            clear hrun hO4 hO3 hk3
            go_wp2_with (at_builtin; refine wpList_append_run _ HR.out rfl rfl rfl rfl ?_)
            go_roundw
            case rel => exact ⟨u + 1, _, _, _, _, by omega, by simp; omega, by simp, by go_num, O4.out, by rw [HK3.out, HK.out.1, List.map_append]; rfl⟩
            case measure => simp [intOf]; omega
          · have O3 := Lib.hid hO3
            have HK3 := Lib.hid hk3
            clear hO3 hk3
            go_wp2
            go_roundw
            case rel => exact ⟨u + 1, _, _, _, _, by omega, by omega, rfl, by go_num, O3.out, HK3.out.trans HK.out.1⟩
            case measure => simp [intOf]; omega
        · obtain rfl : u = q := by omega
          have hU := N40.out
          obtain ⟨m, hm⟩ : ∃ m, m = es.length := ⟨_, rfl⟩
          rw [← hm]
          have hm40 : m ≤ 40 := by omega
          have HM := Lib.hid hm
          clear hlt hu1 hu2 hm hU
          rcases Nat.eq_zero_or_pos m with hm0 | hmp
          · subst hm0
            go_wp2_with (first | (go_at_call 13; (with_reducible refine (ow_waiting O.out HK.out.1 _ HM.out).mono ?_); rintro e w5 ⟨A5, C5, ws5, rfl, hr5, hk5, k5⟩; have O5 := Lib.hid (O.out.kp0 k5); have W5 := Lib.hid (And.intro hr5 hk5); clear hr5 hk5 k5) | (go_at_call 12; (with_reducible refine (ow_same O5.out (by rw [← HM.out]) W5.out.1 W5.out.2 HM.out (by have := HM.out; omega)).mono ?_); rintro e w6 ⟨rfl, k6⟩; have O6 := Lib.hid (O5.out.kp0 k6); clear k6) | (go_at_call 14; (with_reducible refine (ow_first0 O6.out HK.out.1 HM.out.symm).mono ?_); rintro e w7 ⟨rfl, hO⟩; have O7 := Lib.hid hO; clear hO))
            go_ret
            exact ⟨rfl, O7.out.st.k.below (fun _ _ h => h)⟩
          · obtain ⟨p, hp, hp1⟩ := PK.out i0 m HB.out.1 hmp (by omega)
            obtain ⟨r, hr, hr1⟩ := PK.out k0 m HB.out.2.1 hmp (by omega)
            have hpe : p < es.length := by have := HM.out; omega
            have hre : r < es.length := by have := HM.out; omega
            have hpn : p < nds.length := by have := HK.out.2.1; omega
            have hrn : r < nds.length := by have := HK.out.2.1; omega
            have hL : (nd es p).l.length ≤ 1500 := by
              have h1 := O.out.st.n.lens p hpn
              rw [((key_at HK.out.1).2 p).2.2]; exact h1
            obtain ⟨z, hzp, hzk, hzt, hzn⟩ := first_is es p hpe
            obtain ⟨b1, o1, rfl⟩ := O.out.addr (by omega)
            obtain ⟨x1, x2, _, _, hbx⟩ := O.out.cells p hpe
            have BY := Lib.hid (show Byt (nd nds p).l from by
              obtain ⟨a', c', e', hrb⟩ := O.out.fg.each p hpe
              have h1 := hrb.1.bd
              rw [((key_at HK.out.1).2 p).2.2] at h1; exact h1)
            have hLn : (nd es p).l = (nd nds p).l := ((key_at HK.out.1).2 p).2.2
            have P1 := Lib.hid hp1
            have P2 := Lib.hid hr1
            have HZ := Lib.hid (And.intro hzk (And.intro hzt hzn))
            have HP := Lib.hid (And.intro hpe (And.intro hre (And.intro hpn (And.intro hrn hLn))))
            clear hp1 hr1 hzk hzt hzn hbx hpe hre hpn hrn hLn x1 x2
            generalize htt : (nd es p).to = t at *
            have HT := Lib.hid htt
            generalize hLL : (nd es p).l.length = L at *
            have HL2 := Lib.hid hLL
            clear htt hLL
            have hzb : ¬ (z : Int) < 0 := by omega
            have hzc : ¬ (p : Int) < (z : Int) := by omega
            have hzd : decide ((z : Int) < 0) = false := decide_eq_false hzb
            have hze : decide ((p : Int) < (z : Int)) = false := decide_eq_false hzc
            have hzf : decide (p < z) = false := decide_eq_false (by omega)
            have hzg : decide ((z : Int) > (p : Int)) = false := decide_eq_false hzc
            go_upto_region 25 with (first | (go_at_call 13; (with_reducible refine (ow_waiting O.out HK.out.1 _ HM.out).mono ?_); rintro e w5 ⟨A5, C5, ws5, rfl, hr5, hk5, k5⟩; have O5 := Lib.hid (O.out.kp0 k5); have W5 := Lib.hid (And.intro hr5 hk5); clear hr5 hk5 k5) | (go_at_call 12; (with_reducible refine (ow_same O5.out (by rw [← HM.out]) W5.out.1 W5.out.2 HM.out (by have := HM.out; omega)).mono ?_); rintro e w6 ⟨rfl, k6⟩; have O6 := Lib.hid (O5.out.kp0 k6); clear k6) | (go_at_call 15; (with_reducible refine (P1.out _).mono ?_); rintro e w' ⟨rfl, rfl⟩) | (go_at_call 15; (with_reducible refine (P2.out _).mono ?_); rintro e w' ⟨rfl, rfl⟩) |
              (go_at_call 16; (with_reducible refine (ow_swap O6.out p r HP.out.2.2.1 HP.out.2.2.2.1).mono ?_); rintro e w7 ⟨rfl, hO⟩; have O7 := Lib.hid hO; clear hO) |
              (go_at_call 16; (with_reducible refine (ow_swap_back O7.out HP.out.2.2.1 HP.out.2.2.2.1).mono ?_); rintro e w8 ⟨rfl, n8, hO, hk⟩; have O8 := Lib.hid hO; have K8 := Lib.hid (hk.trans HK.out.1); clear hO hk))
            obtain ⟨x1, x2, f0, f1, f2⟩ := O8.out.cells p HP.out.1
            rw [HT.out] at f1
            rw [HL2.out] at f2
            have hpn8 : p < n8.length := by have h1 := congrArg List.length K8.out; simp only [List.length_map] at h1; have := HP.out.1; omega
            have hl8 : (nd n8 p).l = (nd es p).l := (((key_at K8.out).2 p).2.2).symm
            have H8 := Lib.hid (And.intro hpn8 hl8)
            clear hpn8 hl8
            rcases Nat.eq_zero_or_pos L with hL0 | hLp
            · subst hL0
              go_upto_region 29 with (go_at_call 14; (with_reducible refine (ow_first O8.out K8.out z t HZ.out.1).mono ?_); rintro e w11 ⟨rfl, hO⟩; have O11 := Lib.hid hO; have K11 := Lib.hid K8.out; clear hO)
              obtain ⟨z1, z2, q0, q1, q2⟩ := O11.out.cells p HP.out.1
              obtain ⟨z3, z4, s0, s1, s2⟩ := O11.out.cells z (by have := HP.out.1; omega)
              rw [HT.out] at q1
              rw [HZ.out.2.1] at s1
              clear q0 q2 s0 s2
              go_quiet (fail)
              have O12 := Lib.hid (O11.out.kp0 ((Kp.refl (fun _ => False) w11).drewN nq))
              clear q1 s1 z1 z2 z3 z4
              go_wp2
              go_loopw [17] (fun j wr => ∃ y : Nat, y ≤ z ∧ j = .int .i64 y ∧ Kp (fun _ => False) (w11.drewN nq) wr) (fun j _ => z - (intOf j).toNat)
              case atStart => exact ⟨0, by omega, rfl, Kp.refl _ _⟩
              case round =>
                obtain ⟨y, hy, rfl, hkp⟩ := hrel
                have O13 := Lib.hid (O12.out.kp0 hkp)
                have KY := Lib.hid hkp
                clear hkp
                by_cases hlt : y < z
                · have j1 : (y : Int) < (z : Int) := by omega
                  obtain ⟨z1, z2, q0, q1, q2⟩ := O13.out.cells p HP.out.1
                  obtain ⟨z3, z4, s0, s1, s2⟩ := O13.out.cells y (by have := HP.out.1; omega)
                  rw [HT.out] at q1
                  have hne := HZ.out.2.2 y hlt
                  have hne1 : ¬ (nd es y).to = t := hne
                  have hne2 : ((nd es y).to == t) = false := by simpa using hne
                  generalize (nd es y).to = t' at *
                  clear q0 q2 s0 s2 z1 z2 z3 z4 hlt hne
                  go_wp2
                  go_quiet (fail)
                  go_wp2
                  go_roundw
                  case rel => exact ⟨y + 1, by omega, by go_num, KY.out.drewN _⟩
                  case measure => simp [intOf]; omega
                · have j1 : ¬ (y : Int) < (z : Int) := by omega
                  clear hlt
                  go_wp2_with (first | (go_at_call 13; (with_reducible refine (ow_waiting O13.out K11.out _ HM.out).mono ?_); rintro e w15 ⟨A15, C15, ws15, rfl, hr15, hk15, k15⟩; have O15 := Lib.hid (O13.out.kp0 k15); have W15 := Lib.hid (And.intro hr15 hk15); clear hr15 hk15 k15) | (go_at_call 12; (with_reducible refine (ow_same O15.out (by rw [← HM.out]) W15.out.1 W15.out.2 HM.out (by have := HM.out; omega)).mono ?_); rintro e w16 ⟨rfl, k16⟩; have O16 := Lib.hid (O15.out.kp0 k16); clear k16))
                  go_ret
                  exact ⟨rfl, O16.out.st.k.below (fun _ _ h => h)⟩
            · obtain ⟨g, hg, hg1⟩ := PK.out bit (8 * L) HB.out.2.2 (by omega) (by omega)
              have P3 := Lib.hid (fun w' => (by have := hg1 w'; rw [Int.natCast_mul] at this; exact this : Calls Try.prog 15 #[.int .i64 bit, .int .i64 (8 * (L : Int))] w' fun e w'' => e = .returned (.int .i64 g) ∧ w' = w''))
              have HG := Lib.hid (show g < 8 * (nd n8 p).l.length from by rw [H8.out.2, HL2.out]; exact hg)
              have BY8 := Lib.hid (show Byt (nd n8 p).l from by rw [H8.out.2, HP.out.2.2.2.2]; exact BY.out)
              clear hg hg1
              go_upto_region 29 with (first | (go_at_call 15; (with_reducible refine (P3.out _).mono ?_); rintro e w' ⟨rfl, rfl⟩) |
                (go_at_call 17; (with_reducible refine (ow_turn O8.out p g H8.out.1 HG.out).mono ?_); rintro e w9 ⟨rfl, hO⟩; have O9 := Lib.hid hO; clear hO) |
                (go_at_call 17; (with_reducible refine (ow_turn_back O9.out H8.out.1 HG.out BY8.out).mono ?_); rintro e w10 ⟨rfl, n10, hO, hk⟩; have O10 := Lib.hid hO; have K10 := Lib.hid (hk.trans K8.out); obtain ⟨y1, y2, g0, g1, g2⟩ := O10.out.cells p HP.out.1; rw [HT.out] at g1; clear hO hk) |
                (go_at_call 14; (with_reducible refine (ow_first O10.out K10.out z t HZ.out.1).mono ?_); rintro e w11 ⟨rfl, hO⟩; have O11 := Lib.hid hO; have K11 := Lib.hid K10.out; clear hO))
              obtain ⟨z1, z2, q0, q1, q2⟩ := O11.out.cells p HP.out.1
              obtain ⟨z3, z4, s0, s1, s2⟩ := O11.out.cells z (by have := HP.out.1; omega)
              rw [HT.out] at q1
              rw [HZ.out.2.1] at s1
              clear q0 q2 s0 s2
              go_quiet (fail)
              have O12 := Lib.hid (O11.out.kp0 ((Kp.refl (fun _ => False) w11).drewN nq))
              clear q1 s1 z1 z2 z3 z4
              go_wp2
              go_loopw [17] (fun j wr => ∃ y : Nat, y ≤ z ∧ j = .int .i64 y ∧ Kp (fun _ => False) (w11.drewN nq) wr) (fun j _ => z - (intOf j).toNat)
              case atStart => exact ⟨0, by omega, rfl, Kp.refl _ _⟩
              case round =>
                obtain ⟨y, hy, rfl, hkp⟩ := hrel
                have O13 := Lib.hid (O12.out.kp0 hkp)
                have KY := Lib.hid hkp
                clear hkp
                by_cases hlt : y < z
                · have j1 : (y : Int) < (z : Int) := by omega
                  obtain ⟨z1, z2, q0, q1, q2⟩ := O13.out.cells p HP.out.1
                  obtain ⟨z3, z4, s0, s1, s2⟩ := O13.out.cells y (by have := HP.out.1; omega)
                  rw [HT.out] at q1
                  have hne := HZ.out.2.2 y hlt
                  have hne1 : ¬ (nd es y).to = t := hne
                  have hne2 : ((nd es y).to == t) = false := by simpa using hne
                  generalize (nd es y).to = t' at *
                  clear q0 q2 s0 s2 z1 z2 z3 z4 hlt hne
                  go_wp2
                  go_quiet (fail)
                  go_wp2
                  go_roundw
                  case rel => exact ⟨y + 1, by omega, by go_num, KY.out.drewN _⟩
                  case measure => simp [intOf]; omega
                · have j1 : ¬ (y : Int) < (z : Int) := by omega
                  clear hlt
                  go_wp2_with (first | (go_at_call 13; (with_reducible refine (ow_waiting O13.out K11.out _ HM.out).mono ?_); rintro e w15 ⟨A15, C15, ws15, rfl, hr15, hk15, k15⟩; have O15 := Lib.hid (O13.out.kp0 k15); have W15 := Lib.hid (And.intro hr15 hk15); clear hr15 hk15 k15) | (go_at_call 12; (with_reducible refine (ow_same O15.out (by rw [← HM.out]) W15.out.1 W15.out.2 HM.out (by have := HM.out; omega)).mono ?_); rintro e w16 ⟨rfl, k16⟩; have O16 := Lib.hid (O15.out.kp0 k16); clear k16))
                  go_ret
                  exact ⟨rfl, O16.out.st.k.below (fun _ _ h => h)⟩
theorem netOrder_walk (a0 : Option Addr) (len0 cap0 : Nat) (n1 n2 n3 : Int) (w : World) (r0 : Rdg Try.prog w 22 [.slice a0 len0 cap0]) (r1 : Rdg Try.prog w 3 (Value.int .i64 n1).cells.toList) (r2 : Rdg Try.prog w 3 (Value.int .i64 n2).cells.toList) (r3 : Rdg Try.prog w 3 (Value.int .i64 n3).cells.toList) :
    Calls Try.prog 3 #[.slice a0 len0 cap0, .int .i64 n1, .int .i64 n2, .int .i64 n3] w fun e w' => e = .returned (.bool true) ∧ Below w.heap.size w w' := by
  obtain ⟨a, ds, cap, e, hr, _, _, hm⟩ := rdd_open r0
  simp only [List.cons.injEq, Value.slice.injEq, and_true] at e
  obtain ⟨rfl, rfl, rfl⟩ := e
  by_cases h : 40 < ds.length ∨ 3000 < tot ds ds.length
  · exact order_long a0 ds cap0 _ rfl n1 n2 n3 w hr hm h
  · exact order_main a0 ds cap0 _ rfl n1 n2 n3 w hr hm (by omega) (by omega) (rdg_int r1) (rdg_int r2) (rdg_int r3)
end Go.Proofs.Ytgcgcdgjooaipaa
