/- LinkScript: the walk. (Written by wip/lkscr.py.) -/
import Derived.Test.YtokembhfebnjpaaGreatQLnXM
import Derived.Test.YtokembhfebnjpaaGreatQLkOM
namespace Go.Proofs.YtokembhfebnjpaaGreat
set_option maxRecDepth 20000
open Go.RowKit Flt
set_option linter.unusedVariables false
set_option linter.unusedSimpArgs false
theorem ja_new {w W1 W2 : World} {lb o s z : Nat} (a : AgS W1 w.heap.size (ae0 lb o s z)) (h1 : 1 ≤ s) (k : Kp (fun _ => False) w W1) (hc : RlC W2 W1.heap.size (agT s z) (dl0 true)) (k2 : Kp (fun _ => False) W1 W2) : ∃ F, J w W2 true lb W1.heap.size 0 F := by
 have hl := a.lt
 have hR : ∀ j, RlF W1.heap.size (agT s z) (dl0 true) j → j = W1.heap.size := fun j hj => by
  rcases hj with hj | hj | hj
  · exact hj
  · cases hj
  · exact absurd (show (1 : Nat) = 2 from hj.1) (by decide)
 exact ⟨_, .inl ⟨rfl, ae0 lb o s z, dl0 true, rfl, rfl, ⟨a.kp0 k2, hc, fun j hj hr => by have := hl j hj; have := hR j hr; omega, fun j hr => by have := hR j hr; have := k.size; omega, k.trans k2, ⟨rfl, rfl, rfl, rfl, fun e => (by cases e), Nat.zero_le _, Iv.not (by show ¬ (1 : Nat) = 2; decide) _, h1, fun _ => rfl⟩⟩, rfl⟩⟩
theorem jd_new {w W1 W2 : World} {lb o s z : Nat} (a : DmS W1 w.heap.size (de0 lb o s z)) (h1 : 1 ≤ s) (k : Kp (fun _ => False) w W1) (hc : RlC W2 W1.heap.size (dmT s z) (dl0 false)) (k2 : Kp (fun _ => False) W1 W2) : ∃ F, J w W2 false lb W1.heap.size 0 F := by
 have hl := a.lt
 have hR : ∀ j, RlF W1.heap.size (dmT s z) (dl0 false) j → j = W1.heap.size := fun j hj => by
  rcases hj with hj | hj | hj
  · exact hj
  · cases hj
  · exact absurd (show (3 : Nat) = 2 from hj.1) (by decide)
 exact ⟨_, .inr ⟨rfl, de0 lb o s z, dl0 false, rfl, rfl, ⟨a.kp0 k2, hc, fun j hj hr => by have := hl j hj; have := hR j hr; omega, fun j hr => by have := hR j hr; have := k.size; omega, k.trans k2, ⟨rfl, rfl, rfl, Nat.zero_le _, Iv.not (by show ¬ (3 : Nat) = 2; decide) _, h1, by show ¬ (3 : Nat) = 1; decide, fun s hs => (by cases hs), fun e => (by cases e)⟩⟩, rfl⟩⟩
theorem kcell {w w' : World} (k : Kp (fun _ => False) w w') {p : Addr} {x : Option Value} (h : w.cell? p = x) (hx : x.isSome = true) : w'.cell? p = x := by
 obtain ⟨v, rfl⟩ := Option.isSome_iff_exists.1 hx
 exact k.cell h (fun h => h)
set_option maxHeartbeats 2000000 in
theorem script_bad_false (n1 n2 : Int) (a : Option Addr) (n c : Nat) (l : List Sq) (hn : n = l.length) (w : World) (hr : RdQ w a l) (hc : n ≤ 140737488351232) (hlg : longQ l = false) (hf : fitB n1 n2 = false) :
 Calls Tryz.prog 3 #[.bool false, .int .i64 n1, .int .i64 n2, .slice a n c] w fun e w' => e = .returned (.bool true) ∧ Below w.heap.size w w' := by
 have CL := long_any a n c l hn w hr hc
 rw [hlg] at CL
 have CL := Lib.hid CL
 clear hr hn hlg
 go_enter Tryz.func3, Tryz.ntmps3
 go_wp2_with fail
 go_at_call 4
 refine CL.out.mono ?_
 rintro e w1 ⟨rfl, k1⟩
 have K1 := Lib.hid k1
 clear k1 CL
 go_wp2_with fail
 go_at_call 5
 refine (daemon_bad n1 n2 _ hf).mono ?_
 rintro e w2 ⟨rfl, rfl⟩
 go_wp2_with fail
 go_at_call 6
 refine (rl_daemon_bad n1 n2 _ hf).mono ?_
 rintro e w3 ⟨rfl, rfl⟩
 go_wp2_with fail
 go_loopw [13] (fun iv wr => iv = .int .i64 0 ∧ w1 = wr) (fun iv _ => 0)
 case atStart => exact ⟨rfl, rfl⟩
 case round =>
  obtain ⟨rfl, rfl⟩ := hrel
  by_cases h0 : (0 : Int) < n
  · go_wp2_with fail
    go_at_call 11
    refine (awake_any _).mono ?_
    rintro e w6 ⟨rfl, k6⟩
    have K6 := Lib.hid k6
    clear k6
    go_wp2_with fail
    go_ret
    exact ⟨rfl, (K1.out.trans K6.out).below (fun _ _ h => h)⟩
  · go_wp2_with fail
    go_at_call 11
    refine (awake_any _).mono ?_
    rintro e w6 ⟨rfl, k6⟩
    have K6 := Lib.hid k6
    clear k6
    go_wp2_with fail
    go_ret
    exact ⟨rfl, (K1.out.trans K6.out).below (fun _ _ h => h)⟩
set_option maxHeartbeats 2000000 in
theorem script_bad_true (n1 n2 : Int) (a : Option Addr) (n c : Nat) (l : List Sq) (hn : n = l.length) (w : World) (hr : RdQ w a l) (hc : n ≤ 140737488351232) (hlg : longQ l = false) (hf : fitB n1 n2 = false) :
 Calls Tryz.prog 3 #[.bool true, .int .i64 n1, .int .i64 n2, .slice a n c] w fun e w' => e = .returned (.bool true) ∧ Below w.heap.size w w' := by
 have CL := long_any a n c l hn w hr hc
 rw [hlg] at CL
 have CL := Lib.hid CL
 clear hr hn hlg
 go_enter Tryz.func3, Tryz.ntmps3
 go_wp2_with fail
 go_at_call 4
 refine CL.out.mono ?_
 rintro e w1 ⟨rfl, k1⟩
 have K1 := Lib.hid k1
 clear k1 CL
 go_wp2_with fail
 go_at_call 5
 refine (daemon_bad n1 n2 _ hf).mono ?_
 rintro e w2 ⟨rfl, rfl⟩
 go_wp2_with fail
 go_at_call 6
 refine (rl_daemon_bad n1 n2 _ hf).mono ?_
 rintro e w3 ⟨rfl, rfl⟩
 go_wp2_with fail
 go_at_call 7
 refine (agent_bad n1 n2 _ hf).mono ?_
 rintro e w4 ⟨rfl, rfl⟩
 go_wp2_with fail
 go_at_call 8
 refine (rl_agent_bad n1 n2 _ hf).mono ?_
 rintro e w5 ⟨rfl, rfl⟩
 go_wp2_with fail
 go_loopw [13] (fun iv wr => iv = .int .i64 0 ∧ w1 = wr) (fun iv _ => 0)
 case atStart => exact ⟨rfl, rfl⟩
 case round =>
  obtain ⟨rfl, rfl⟩ := hrel
  by_cases h0 : (0 : Int) < n
  · go_wp2_with fail
    go_at_call 11
    refine (awake_any _).mono ?_
    rintro e w6 ⟨rfl, k6⟩
    have K6 := Lib.hid k6
    clear k6
    go_wp2_with fail
    go_ret
    exact ⟨rfl, (K1.out.trans K6.out).below (fun _ _ h => h)⟩
  · go_wp2_with fail
    go_at_call 11
    refine (awake_any _).mono ?_
    rintro e w6 ⟨rfl, k6⟩
    have K6 := Lib.hid k6
    clear k6
    go_wp2_with fail
    go_ret
    exact ⟨rfl, (K1.out.trans K6.out).below (fun _ _ h => h)⟩
set_option maxHeartbeats 4000000 in
theorem script_good_false (s z : Nat) (a : Option Addr) (n c : Nat) (l : List Sq) (hn : n = l.length) (w : World) (hr : RdQ w a l) (hc : n ≤ 140737488351232) (hlg : longQ l = false) (hf : fitB s z = true) :
 Calls Tryz.prog 3 #[.bool false, .int .i64 (s : Nat), .int .i64 (z : Nat), .slice a n c] w fun e w' => e = .returned (.bool true) ∧ Below w.heap.size w w' := by
 have CL := long_any a n c l hn w hr hc
 rw [hlg] at CL
 have CL := Lib.hid CL
 obtain ⟨hl100, hbs⟩ := longQ_no hlg
 have hn100 : n ≤ 100 := by omega
 have hs1 : 1 ≤ s := by have := fitB_yes hf; omega
 have HL := Lib.hid (And.intro hr (And.intro hn hbs))
 clear hr hn hlg hl100 hbs
 go_enter Tryz.func3, Tryz.ntmps3
 go_wp2_with fail
 go_at_call 4
 refine CL.out.mono ?_
 rintro e w1 ⟨rfl, k1⟩
 have k1s : w.heap.size ≤ w1.heap.size := k1.size
 have K1 := Lib.hid k1
 clear k1 CL
 go_wp2_with fail
 go_at_call 5
 refine (dm_new s z s z rfl rfl w1 hf w.heap.size k1s).mono ?_
 rintro e w2 ⟨lb, o, rfl, hd, hge, k2⟩
 have H2 := Lib.hid (And.intro hd (K1.out.trans k2))
 clear hd hge k2
 go_wp2_with fail
 go_at_call 6
 refine (rl_daemon_ok s z w2 hf).mono ?_
 rintro e w3 ⟨rfl, hc3, k3⟩
 obtain ⟨F0, hj⟩ := jd_new H2.out.1 hs1 H2.out.2 hc3 k3
 obtain ⟨r, hr2⟩ : ∃ r, r = w2.heap.size := ⟨_, rfl⟩
 rw [← hr2] at hj ⊢
 have HJ := Lib.hid hj
 clear hc3 k3 hj hr2
 obtain ⟨wz, hwz⟩ : ∃ wz, wz = w3 := ⟨_, rfl⟩
 rw [← hwz] at HJ ⊢
 clear hwz
 go_wp2_with fail
 go_loopw [13] (fun iv wr => ∃ (i : Nat) (F : Nat → Prop), i ≤ n ∧ iv = .int .i64 i ∧ J w wr false lb r i F) (fun iv _ => n - (intOf iv).toNat)
 case atStart => exact ⟨0, F0, by omega, rfl, HJ.out⟩
 case round =>
  obtain ⟨i, F, hi, rfl, hj⟩ := hrel
  by_cases hlt : i < n
  · have j1 : (i : Int) < n := by omega
    have hil : i < l.length := by have := HL.out.2.1; omega
    obtain ⟨hq, b, off, rfl, h0⟩ := HL.out.1 i hil
    have hb := HL.out.2.2 i hil
    obtain ⟨q, hqq⟩ : ∃ q, q = sq l i := ⟨_, rfl⟩
    rw [← hqq] at hq h0 hb
    have CA := act_any hj (by omega) q hq hb
    have kw := hj.kpw
    have d0 : wr.cell? ⟨b, off + (i * 9 + 0), none⟩ = (sqW q)[0]? := kcell kw (h0 0 (by omega)) rfl
    have d1 : wr.cell? ⟨b, off + (i * 9 + 1), none⟩ = (sqW q)[1]? := kcell kw (h0 1 (by omega)) rfl
    have d2 : wr.cell? ⟨b, off + (i * 9 + 2), none⟩ = (sqW q)[2]? := kcell kw (h0 2 (by omega)) rfl
    have d3 : wr.cell? ⟨b, off + (i * 9 + 3), none⟩ = (sqW q)[3]? := kcell kw (h0 3 (by omega)) rfl
    have d4 : wr.cell? ⟨b, off + (i * 9 + 4), none⟩ = (sqW q)[4]? := kcell kw (h0 4 (by omega)) rfl
    have d5 : wr.cell? ⟨b, off + (i * 9 + 5), none⟩ = (sqW q)[5]? := kcell kw (h0 5 (by omega)) rfl
    have d6 : wr.cell? ⟨b, off + (i * 9 + 6), none⟩ = (sqW q)[6]? := kcell kw (h0 6 (by omega)) rfl
    have d7 : wr.cell? ⟨b, off + (i * 9 + 7), none⟩ = (sqW q)[7]? := kcell kw (h0 7 (by omega)) rfl
    have d8 : wr.cell? ⟨b, off + (i * 9 + 8), none⟩ = (sqW q)[8]? := kcell kw (h0 8 (by omega)) rfl
    dsimp only [sqA] at CA
    have e0 : wr.cell? ⟨b, off + i * 9, none⟩ = some (.int .i64 q.kd) := d0
    have e1 : wr.cell? ⟨b, off + i * 9 + 1, none⟩ = some (.int .i64 q.now) := by rw [Nat.add_assoc]; exact d1
    have e2 : wr.cell? ⟨b, off + i * 9 + 2, none⟩ = some (.int .i64 q.f.ty) := by rw [Nat.add_assoc]; exact d2
    have e3 : wr.cell? ⟨b, off + i * 9 + 3, none⟩ = some (.int .i64 q.f.se) := by rw [Nat.add_assoc]; exact d3
    have e4 : wr.cell? ⟨b, off + i * 9 + 4, none⟩ = some (.int .i64 q.f.bo) := by rw [Nat.add_assoc]; exact d4
    have e5 : wr.cell? ⟨b, off + i * 9 + 5, none⟩ = some (.int .i64 q.f.sq) := by rw [Nat.add_assoc]; exact d5
    have e6 : wr.cell? ⟨b, off + i * 9 + 6, none⟩ = some (.int .i64 q.f.ac) := by rw [Nat.add_assoc]; exact d6
    have e7 : wr.cell? ⟨b, off + i * 9 + 7, none⟩ = some (.slice q.fa q.f.bd.length q.fc) := by rw [Nat.add_assoc]; exact d7
    have e8 : wr.cell? ⟨b, off + i * 9 + 8, none⟩ = some (.slice q.a q.body.length q.cap) := by rw [Nat.add_assoc]; exact d8
    clear d0 d1 d2 d3 d4 d5 d6 d7 d8 h0 hq hb hqq kw hil
    obtain ⟨kd, now, ⟨ty, se, bo, sq', ac, bd⟩, fa, fc, pa, pc, body⟩ := q
    dsimp only at CA e0 e1 e2 e3 e4 e5 e6 e7 e8
    generalize bd.length = nb at *
    generalize body.length = m at *
    have CA := Lib.hid CA
    have HI := Lib.hid (show i + 1 ≤ n from hlt)
    clear hj
    go_wp2_with fail
    go_at_call 9
    refine CA.out.mono ?_
    rintro e w7 ⟨rfl, hleft⟩
    obtain ⟨F7, hj7, hm7⟩ := hleft
    have CS := Lib.hid (lksame_any hj7 (by omega))
    have HJ7 := Lib.hid hj7
    clear hj7 hm7 CA e0 e1 e2 e3 e4 e5 e6 e7 e8
    go_wp2_with fail
    go_at_call 10
    refine CS.out.mono ?_
    rintro e w8 ⟨rfl, k8⟩
    have HJ8 := Lib.hid (HJ7.out.kp0 k8)
    clear k8 CS
    go_wp2_with fail
    go_roundw
    case rel => exact ⟨i + 1, F7, HI.out, by go_num, HJ8.out⟩
    case measure => have := HI.out; simp [intOf]; omega
  · obtain rfl : i = n := by omega
    have CS := Lib.hid (lksame_any hj (by omega))
    have HK := Lib.hid hj.kpw
    clear hj
    go_wp2_with fail
    go_at_call 10
    refine CS.out.mono ?_
    rintro e w8 ⟨rfl, k8⟩
    have K8 := Lib.hid (HK.out.trans k8)
    clear k8 CS
    go_wp2_with fail
    go_at_call 11
    refine (awake_any _).mono ?_
    rintro e w9 ⟨rfl, k9⟩
    have K9 := Lib.hid (K8.out.trans k9)
    clear k9
    go_wp2_with fail
    go_ret
    exact ⟨rfl, K9.out.below (fun _ _ h => h)⟩
set_option maxHeartbeats 4000000 in
theorem script_good_true (s z : Nat) (a : Option Addr) (n c : Nat) (l : List Sq) (hn : n = l.length) (w : World) (hr : RdQ w a l) (hc : n ≤ 140737488351232) (hlg : longQ l = false) (hf : fitB s z = true) :
 Calls Tryz.prog 3 #[.bool true, .int .i64 (s : Nat), .int .i64 (z : Nat), .slice a n c] w fun e w' => e = .returned (.bool true) ∧ Below w.heap.size w w' := by
 have CL := long_any a n c l hn w hr hc
 rw [hlg] at CL
 have CL := Lib.hid CL
 obtain ⟨hl100, hbs⟩ := longQ_no hlg
 have hn100 : n ≤ 100 := by omega
 have hs1 : 1 ≤ s := by have := fitB_yes hf; omega
 have HL := Lib.hid (And.intro hr (And.intro hn hbs))
 clear hr hn hlg hl100 hbs
 go_enter Tryz.func3, Tryz.ntmps3
 go_wp2_with fail
 go_at_call 4
 refine CL.out.mono ?_
 rintro e w1 ⟨rfl, k1⟩
 have k1s : w.heap.size ≤ w1.heap.size := k1.size
 have K1 := Lib.hid k1
 clear k1 CL
 go_wp2_with fail
 go_at_call 5
 refine (dm_new s z s z rfl rfl w1 hf w.heap.size k1s).mono ?_
 rintro e w2 ⟨lb, o, rfl, hd, hge, k2⟩
 have H2 := Lib.hid (And.intro hd (K1.out.trans k2))
 clear hd hge k2
 go_wp2_with fail
 go_at_call 6
 refine (rl_daemon_ok s z w2 hf).mono ?_
 rintro e w3 ⟨rfl, hc3, k3⟩
 have H3 := Lib.hid (H2.out.2.trans k3)
 have s3 : w.heap.size ≤ w3.heap.size := H3.out.size
 obtain ⟨r0, hr0⟩ : ∃ r, r = w2.heap.size := ⟨_, rfl⟩
 rw [← hr0]
 clear hc3 k3 hr0
 go_wp2_with fail
 go_at_call 7
 refine (ag_new s z s z rfl rfl w3 hf w.heap.size s3).mono ?_
 rintro e w4 ⟨lb4, o4, rfl, ha, hge, k4⟩
 have H4 := Lib.hid (And.intro ha (H3.out.trans k4))
 clear ha hge k4
 go_wp2_with fail
 go_at_call 8
 refine (rl_agent_ok s z w4 hf).mono ?_
 rintro e w5 ⟨rfl, hc5, k5⟩
 obtain ⟨F0, hj⟩ := ja_new H4.out.1 hs1 H4.out.2 hc5 k5
 obtain ⟨r, hr2⟩ : ∃ r, r = w4.heap.size := ⟨_, rfl⟩
 rw [← hr2] at hj ⊢
 have HJ := Lib.hid hj
 clear hc5 k5 hj hr2
 obtain ⟨wz, hwz⟩ : ∃ wz, wz = w5 := ⟨_, rfl⟩
 rw [← hwz] at HJ ⊢
 clear hwz
 go_wp2_with fail
 go_loopw [13] (fun iv wr => ∃ (i : Nat) (F : Nat → Prop), i ≤ n ∧ iv = .int .i64 i ∧ J w wr true lb4 r i F) (fun iv _ => n - (intOf iv).toNat)
 case atStart => exact ⟨0, F0, by omega, rfl, HJ.out⟩
 case round =>
  obtain ⟨i, F, hi, rfl, hj⟩ := hrel
  by_cases hlt : i < n
  · have j1 : (i : Int) < n := by omega
    have hil : i < l.length := by have := HL.out.2.1; omega
    obtain ⟨hq, b, off, rfl, h0⟩ := HL.out.1 i hil
    have hb := HL.out.2.2 i hil
    obtain ⟨q, hqq⟩ : ∃ q, q = sq l i := ⟨_, rfl⟩
    rw [← hqq] at hq h0 hb
    have CA := act_any hj (by omega) q hq hb
    have kw := hj.kpw
    have d0 : wr.cell? ⟨b, off + (i * 9 + 0), none⟩ = (sqW q)[0]? := kcell kw (h0 0 (by omega)) rfl
    have d1 : wr.cell? ⟨b, off + (i * 9 + 1), none⟩ = (sqW q)[1]? := kcell kw (h0 1 (by omega)) rfl
    have d2 : wr.cell? ⟨b, off + (i * 9 + 2), none⟩ = (sqW q)[2]? := kcell kw (h0 2 (by omega)) rfl
    have d3 : wr.cell? ⟨b, off + (i * 9 + 3), none⟩ = (sqW q)[3]? := kcell kw (h0 3 (by omega)) rfl
    have d4 : wr.cell? ⟨b, off + (i * 9 + 4), none⟩ = (sqW q)[4]? := kcell kw (h0 4 (by omega)) rfl
    have d5 : wr.cell? ⟨b, off + (i * 9 + 5), none⟩ = (sqW q)[5]? := kcell kw (h0 5 (by omega)) rfl
    have d6 : wr.cell? ⟨b, off + (i * 9 + 6), none⟩ = (sqW q)[6]? := kcell kw (h0 6 (by omega)) rfl
    have d7 : wr.cell? ⟨b, off + (i * 9 + 7), none⟩ = (sqW q)[7]? := kcell kw (h0 7 (by omega)) rfl
    have d8 : wr.cell? ⟨b, off + (i * 9 + 8), none⟩ = (sqW q)[8]? := kcell kw (h0 8 (by omega)) rfl
    dsimp only [sqA] at CA
    have e0 : wr.cell? ⟨b, off + i * 9, none⟩ = some (.int .i64 q.kd) := d0
    have e1 : wr.cell? ⟨b, off + i * 9 + 1, none⟩ = some (.int .i64 q.now) := by rw [Nat.add_assoc]; exact d1
    have e2 : wr.cell? ⟨b, off + i * 9 + 2, none⟩ = some (.int .i64 q.f.ty) := by rw [Nat.add_assoc]; exact d2
    have e3 : wr.cell? ⟨b, off + i * 9 + 3, none⟩ = some (.int .i64 q.f.se) := by rw [Nat.add_assoc]; exact d3
    have e4 : wr.cell? ⟨b, off + i * 9 + 4, none⟩ = some (.int .i64 q.f.bo) := by rw [Nat.add_assoc]; exact d4
    have e5 : wr.cell? ⟨b, off + i * 9 + 5, none⟩ = some (.int .i64 q.f.sq) := by rw [Nat.add_assoc]; exact d5
    have e6 : wr.cell? ⟨b, off + i * 9 + 6, none⟩ = some (.int .i64 q.f.ac) := by rw [Nat.add_assoc]; exact d6
    have e7 : wr.cell? ⟨b, off + i * 9 + 7, none⟩ = some (.slice q.fa q.f.bd.length q.fc) := by rw [Nat.add_assoc]; exact d7
    have e8 : wr.cell? ⟨b, off + i * 9 + 8, none⟩ = some (.slice q.a q.body.length q.cap) := by rw [Nat.add_assoc]; exact d8
    clear d0 d1 d2 d3 d4 d5 d6 d7 d8 h0 hq hb hqq kw hil
    obtain ⟨kd, now, ⟨ty, se, bo, sq', ac, bd⟩, fa, fc, pa, pc, body⟩ := q
    dsimp only at CA e0 e1 e2 e3 e4 e5 e6 e7 e8
    generalize bd.length = nb at *
    generalize body.length = m at *
    have CA := Lib.hid CA
    have HI := Lib.hid (show i + 1 ≤ n from hlt)
    clear hj
    go_wp2_with fail
    go_at_call 9
    refine CA.out.mono ?_
    rintro e w7 ⟨rfl, hleft⟩
    obtain ⟨F7, hj7, hm7⟩ := hleft
    have CS := Lib.hid (lksame_any hj7 (by omega))
    have HJ7 := Lib.hid hj7
    clear hj7 hm7 CA e0 e1 e2 e3 e4 e5 e6 e7 e8
    go_wp2_with fail
    go_at_call 10
    refine CS.out.mono ?_
    rintro e w8 ⟨rfl, k8⟩
    have HJ8 := Lib.hid (HJ7.out.kp0 k8)
    clear k8 CS
    go_wp2_with fail
    go_roundw
    case rel => exact ⟨i + 1, F7, HI.out, by go_num, HJ8.out⟩
    case measure => have := HI.out; simp [intOf]; omega
  · obtain rfl : i = n := by omega
    have CS := Lib.hid (lksame_any hj (by omega))
    have HK := Lib.hid hj.kpw
    clear hj
    go_wp2_with fail
    go_at_call 10
    refine CS.out.mono ?_
    rintro e w8 ⟨rfl, k8⟩
    have K8 := Lib.hid (HK.out.trans k8)
    clear k8 CS
    go_wp2_with fail
    go_at_call 11
    refine (awake_any _).mono ?_
    rintro e w9 ⟨rfl, k9⟩
    have K9 := Lib.hid (K8.out.trans k9)
    clear k9
    go_wp2_with fail
    go_ret
    exact ⟨rfl, K9.out.below (fun _ _ h => h)⟩
set_option maxHeartbeats 1000000 in
theorem script_long (b0 : Bool) (n1 n2 : Int) (a : Option Addr) (n c : Nat) (l : List Sq) (hn : n = l.length) (w : World) (hr : RdQ w a l) (hc : n ≤ 140737488351232) (hlg : longQ l = true) :
 Calls Tryz.prog 3 #[.bool b0, .int .i64 n1, .int .i64 n2, .slice a n c] w fun e w' => e = .returned (.bool true) ∧ Below w.heap.size w w' := by
 have CL := long_any a n c l hn w hr hc
 rw [hlg] at CL
 have CL := Lib.hid CL
 clear hr hn hlg
 go_enter Tryz.func3, Tryz.ntmps3
 go_wp2_with fail
 go_at_call 4
 refine CL.out.mono ?_
 rintro e w1 ⟨rfl, k1⟩
 have K1 := Lib.hid k1
 clear k1 CL
 go_wp2_with fail
 go_ret
 exact ⟨rfl, K1.out.below (fun _ _ h => h)⟩
theorem linkScript_walk (b0 : Bool) (n1 n2 : Int) (a3 : Option Addr) (len3 cap3 : Nat) (w : World) (r0 : Rdg Tryz.prog w 4 [.bool b0]) (r1 : Rdg Tryz.prog w 3 [.int .i64 n1]) (r2 : Rdg Tryz.prog w 3 [.int .i64 n2]) (r3 : Rdg Tryz.prog w 22 [.slice a3 len3 cap3]) :
 Calls Tryz.prog 3 #[.bool b0, .int .i64 n1, .int .i64 n2, .slice a3 len3 cap3] w fun e w' => e = .returned (.bool true) ∧ Below w.heap.size w w' := by
 obtain ⟨a, l, cap, e0, hr, h1, h2⟩ := open_sqs r3
 simp only [List.cons.injEq, Value.slice.injEq, and_true] at e0
 obtain ⟨rfl, rfl, rfl⟩ := e0
 have hc : l.length ≤ 140737488351232 := by omega
 cases hlg : longQ l
 · cases hf : fitB n1 n2
   · cases b0
     · exact script_bad_false n1 n2 a3 _ cap3 l rfl w hr hc hlg hf
     · exact script_bad_true n1 n2 a3 _ cap3 l rfl w hr hc hlg hf
   · have h3 := fitB_yes hf
     obtain ⟨s, rfl⟩ := Int.eq_ofNat_of_zero_le (show 0 ≤ n1 by omega)
     obtain ⟨z, rfl⟩ := Int.eq_ofNat_of_zero_le (show 0 ≤ n2 by omega)
     cases b0
     · exact script_good_false s z a3 _ cap3 l rfl w hr hc hlg hf
     · exact script_good_true s z a3 _ cap3 l rfl w hr hc hlg hf
 · exact script_long b0 n1 n2 a3 _ cap3 l rfl w hr hc hlg
end Go.Proofs.YtokembhfebnjpaaGreat
