/- The walk of ChunkPushes: it returns true, whatever comes in. No condition. (Written by wip/chkpushes.py.) -/
import Derived.Test.YtlabkldpcbmjbaaChkPs
import Derived.Test.YtlabkldpcbmjbaaChunkKnown
import Derived.Test.YtlabkldpcbmjbaaLists
import Derived.Deep.DeepCutAuto
import Derived.Outline
namespace Go.Proofs.Ytlabkldpcbmjbaa
open Go.RowKit
set_option linter.unusedVariables false
set_option linter.unusedSimpArgs false
theorem totP_bd (ds : List Pi) (q : Nat) (hq : q ≤ 61) (h : ∀ i, (pi ds i).1.length ≤ 140737488355328) : totP ds q ≤ 8584986789675008 := by
  have := totP_le ds _ h q
  have := Nat.mul_le_mul_right 140737488355328 hq
  omega
theorem ps_new {w w2 : World} {cb : Nat} (hE : EdgeAt w2 cb [] (cutT (.slice none 0 0) true false)) (hc : w.heap.size ≤ cb) (k : Kp (fun _ => False) w w2) (T : TypeId) : Ps w (w2.alloc (.cells #[.slice none 0 0, .bool false] T)) cb w2.heap.size false none none 0 0 0 [] [] := by
  have ka := (Kp.refl (fun _ => False) w2).alloc (.cells #[.slice none 0 0, .bool false] T)
  have hl := hE.lt
  exact ⟨hE.kp ka (fun h => h), OwnB.nil' _, At.new w2 [.slice none 0 0, .bool false] T, RdB.nil _ _, rfl, Open.nil, fun _ => rfl, by omega, hc, k.size, fun g hg => (by simp [Value.ownBlock] at hg), fun y hy => (by cases hy), fun y hy => (by cases hy), k.trans ka⟩
theorem lent_m (a : Option Addr) (m cap : Nat) (l : List Int) (hm : m = l.length) (w : World) (h : RdB w a l) (hl : m ≤ 8000) :
    Calls Try.prog 11 #[.slice a m cap] w fun e w' => e = .returned (.slice (some ⟨w.heap.size, 0, none⟩) m (m + 3)) ∧ At w' w.heap.size ((l ++ marks m).map (Value.int .u8)) ∧ Kp (fun _ => False) w w' := by
  subst hm; exact lent_any a cap l w h (by omega)
theorem kept_m (g : Nat) (a : Option Addr) (m cap : Nat) (l : List Int) (hm : m = l.length) (w : World) (hg : At w g ((l ++ marks m).map (Value.int .u8))) (h : RdB w a l) (hl : m ≤ 8000) :
    Calls Try.prog 19 #[.slice (some ⟨g, 0, none⟩) m (m + 3), .slice a m cap] w fun e w' => e = .returned (.bool true) ∧ Kp (fun _ => False) w w' := by
  subst hm; exact kept_any g a cap l w hg h (by omega)
theorem over_m (g m : Nat) (l : List Int) (hm : m = l.length) (w : World) (hg : At w g ((l ++ marks m).map (Value.int .u8))) (hb : Byt l) (hl : m ≤ 8000) :
    Calls Try.prog 18 #[.slice (some ⟨g, 0, none⟩) m (m + 3)] w fun e w' => e = .returned (.tuple #[]) ∧ Kp (· = g) w w' := by
  subst hm
  refine (over_at g 0 l.length (l.length + 3) _ w hg (isB_map (hb.append (byt_marks _))) (by simp [marks]) (by omega) (by omega)).mono ?_
  rintro e w' ⟨h1, _, h2⟩
  exact ⟨h1, h2⟩
theorem zero_rc (w : World) : (Instr.build 41 #[]).run Try.prog w = .ok (.agg #[.slice none 0 0, .bool false]) w := by kernel_rfl
set_option maxHeartbeats 4000000 in
set_option maxRecDepth 20000 in
theorem pushes_long (a : Option Addr) (ds : List Pi) (cap n : Nat) (hnn : n = ds.length) (w : World) (hr : RdP w a ds) (hm : ∀ i, (pi ds i).1.length ≤ 140737488355328) (hl : 60 < n ∨ 8000 < totP ds n) :
    Calls Try.prog 4 #[.slice a n cap] w fun e w' => e = .returned (.bool true) ∧ Below w.heap.size w w' := by
  have CN := Lib.hid ((new_cut w).mono (fun e w'' h => (⟨h.choose, h.choose_spec.1, h.choose_spec.2.2.2⟩ : ∃ cb, e = .returned (.pointer (some ⟨cb, 0, none⟩)) ∧ Kp (fun _ => False) w w'')))
  have HZ := Lib.hid zero_rc
  have hzz := fun w' => HZ.out w'
  have H := Lib.hid (And.intro hr (And.intro hm (And.intro hl hnn)))
  clear hr hm hl hnn
  go_enter Try.func4, Try.ntmps4
  go_wp2
  go_loopw [3, 4] (fun s j wr => ∃ q : Nat, q ≤ n ∧ q ≤ 61 ∧ s = .int .i64 (totP ds q : Nat) ∧ j = .int .i64 q ∧ w = wr) (fun _ j _ => 61 - (intOf j).toNat)
  case atStart => exact ⟨0, by omega, by omega, rfl, rfl, by simp⟩
  case round =>
    obtain ⟨q, hq1, hq2, rfl, rfl, rfl⟩ := hrel
    by_cases hlt : q < n ∧ q < 61
    · have j1 : (q : Int) < n := by omega
      have j2 : (q : Int) < 61 := by omega
      obtain ⟨b1, o1, a1, c1, rfl, f0, f1, r1, _⟩ := H.out.1 q (by rw [← H.out.2.2.2]; exact hlt.1)
      have hb1 := H.out.2.1 q
      have hb2 := totP_bd ds q hq2 H.out.2.1
      have HS := Lib.hid (show totP ds q + (pi ds q).1.length = totP ds (q + 1) from rfl)
      clear r1 f1 hlt
      generalize totP ds q = t at *
      generalize (pi ds q).1.length = m at *
      go_wp2
      go_roundw
      case rel => exact ⟨q + 1, by omega, by omega, by rw [← HS.out]; go_num, by go_num, trivial⟩
      case measure => simp [intOf]; omega
    · by_cases h40 : 60 < n
      · have j3 : (60 : Int) < n := by omega
        by_cases hqn : q < n
        · have j1 : (q : Int) < n := by omega
          have j2 : ¬ (q : Int) < 61 := by omega
          clear hq1 hq2 hlt h40 hqn
          go_wp2_with (go_at_call 21; (with_reducible refine CN.out.mono ?_); rintro e w2 ⟨cb, rfl, k2⟩; have K2 := Lib.hid k2; clear k2)
          go_ret
          exact ⟨rfl, (K2.out.alloc _).below (fun _ _ h => h)⟩
        · have j1 : ¬ (q : Int) < n := by omega
          clear hq1 hq2 hlt h40 hqn
          go_wp2_with (go_at_call 21; (with_reducible refine CN.out.mono ?_); rintro e w2 ⟨cb, rfl, k2⟩; have K2 := Lib.hid k2; clear k2)
          go_ret
          exact ⟨rfl, (K2.out.alloc _).below (fun _ _ h => h)⟩
      · obtain rfl : q = n := by omega
        have j4 : (8000 : Int) < (totP ds q : Nat) := by have := H.out.2.2.1; omega
        have j3 : ¬ (60 : Int) < q := by omega
        clear hq1 hq2 hlt h40
        go_wp2_with (go_at_call 21; (with_reducible refine CN.out.mono ?_); rintro e w2 ⟨cb, rfl, k2⟩; have K2 := Lib.hid k2; clear k2)
        go_ret
        exact ⟨rfl, (K2.out.alloc _).below (fun _ _ h => h)⟩
set_option maxHeartbeats 8000000 in
set_option maxRecDepth 20000 in
theorem pushes_main (a : Option Addr) (ds : List Pi) (cap n : Nat) (hnn : n = ds.length) (w : World) (hr : RdP w a ds) (hm : ∀ i, (pi ds i).1.length ≤ 140737488355328) (hi : n ≤ 60) (hl : totP ds n ≤ 8000) :
    Calls Try.prog 4 #[.slice a n cap] w fun e w' => e = .returned (.bool true) ∧ Below w.heap.size w w' := by
  have AW := Lib.hid (fun w' => awake_any w')
  have CN := Lib.hid (new_cut w)
  have HZ := Lib.hid zero_rc
  have hzz := fun w' => HZ.out w'
  have H := Lib.hid (And.intro hr (And.intro hm (And.intro hl hnn)))
  have N40 := Lib.hid hi
  clear hr hm hl hnn hi
  go_enter Try.func4, Try.ntmps4
  go_wp2
  go_loopw [3, 4] (fun s j wr => ∃ q : Nat, q ≤ n ∧ q ≤ 61 ∧ s = .int .i64 (totP ds q : Nat) ∧ j = .int .i64 q ∧ w = wr) (fun _ j _ => 61 - (intOf j).toNat)
  case atStart => exact ⟨0, by omega, by omega, rfl, rfl, by simp⟩
  case round =>
    obtain ⟨q, hq1, hq2, rfl, rfl, rfl⟩ := hrel
    by_cases hlt : q < n ∧ q < 61
    · have j1 : (q : Int) < n := by omega
      have j2 : (q : Int) < 61 := by omega
      obtain ⟨b1, o1, a1, c1, rfl, f0, f1, r1, _⟩ := H.out.1 q (by rw [← H.out.2.2.2]; exact hlt.1)
      have hb1 := H.out.2.1 q
      have hb2 := totP_bd ds q hq2 H.out.2.1
      have HS := Lib.hid (show totP ds q + (pi ds q).1.length = totP ds (q + 1) from rfl)
      clear r1 f1 hlt
      generalize totP ds q = t at *
      generalize (pi ds q).1.length = m at *
      go_wp2
      go_roundw
      case rel => exact ⟨q + 1, by omega, by omega, by rw [← HS.out]; go_num, by go_num, trivial⟩
      case measure => simp [intOf]; omega
    · obtain rfl : q = n := by have := N40.out; omega
      have j4 : ¬ (8000 : Int) < (totP ds q : Nat) := by have := H.out.2.2.1; omega
      have j3 : ¬ (60 : Int) < q := by have := N40.out; omega
      clear hq1 hq2 hlt
      have TE := Lib.hid (totP_each ds q)
      generalize totP ds q = t at *
      go_wp2_with (go_at_call 21; (with_reducible refine CN.out.mono ?_); rintro e w2 ⟨cb, rfl, hcb, hE, k2⟩; have P2 := Lib.hid (ps_new hE hcb k2 41); clear hcb hE k2)
      obtain ⟨rb, hrb⟩ : ∃ rb, rb = w2.heap.size := ⟨_, rfl⟩
      rw [← hrb] at P2 ⊢
      clear hrb
      generalize w2.alloc (.cells #[.slice none 0 0, .bool false] 41) = w0 at *
      go_loopw [7] (fun iv wr => ∃ (i : Nat) (ov : Bool) (la ra : Option Addr) (n lc rc : Nat) (ec cur : List Int), i ≤ q ∧ iv = .int .i64 i ∧ Ps w wr cb rb ov la ra n lc rc ec cur) (fun iv _ => q - (intOf iv).toNat)
      case atStart => exact ⟨0, false, none, none, 0, 0, 0, [], [], by omega, rfl, P2.out⟩
      case round =>
        obtain ⟨i, ov, la, ra, n, lc, rc, ec, cur, hiq, rfl, hP⟩ := hrel
        by_cases hlt : i < q
        · have j1 : (i : Int) < q := by omega
          obtain ⟨b1, o1, ai, ci, rfl, f0, f1, r1, hc1, hc2⟩ := H.out.1 i (by rw [← H.out.2.2.2]; exact hlt)
          have hme := TE.out i hlt
          have htl := H.out.2.2.1
          have g0 := hP.k.cell f0 (fun h => h)
          have g1 := hP.k.cell f1 (fun h => h)
          have G := Lib.hid (And.intro f0 (And.intro f1 r1))
          have hm8 : (pi ds i).1.length ≤ 8000 := by omega
          clear f0 f1 hme htl
          generalize (pi ds i).1 = l at *
          generalize (pi ds i).2 = en at *
          obtain ⟨m, hm⟩ : ∃ m, m = l.length := ⟨_, rfl⟩
          rw [← hm] at g0 hm8 hc1
          have HM := Lib.hid hm
          have HP := Lib.hid hP
          clear hm
          cases en with
          | true =>
            cases ov with
            | false =>
              have PE := Lib.hid (ps_end hP)
              clear hP r1
              go_wp2_with (first | (go_at_call 22; (with_reducible refine PE.out.mono ?_); rintro e w4 ⟨rfl, hnx⟩; have CR := Lib.hid hnx; clear hnx) | (go_at_call 23; (with_reducible refine CR.out.mono ?_); rintro e w5 ⟨rfl, h1, h2, hP⟩; have H5 := Lib.hid (And.intro h1 h2); have P5 := Lib.hid hP; clear h1 h2 hP))
              have c5 := P5.out.r0
              have CSB := fun nq => Calls.quiet_of_same (n := nq) (Calls.turn (same_n la ra n n lc rc cur cur (World.drewN w5 nq) (H5.out.1.drewN nq) (H5.out.2.drewN nq) HP.out.len.symm HP.out.len.symm))
              simp only [decide_true] at CSB
              have CLF := fun nq => Calls.quiet_of_same (n := nq) (Calls.turn (left_cells cb none 0 0 (World.drewN w5 nq) P5.out.c20))
              go_quiet (first | (go_at_call 24; with_reducible exact CSB _) | (go_at_call 25; exact CLF _))
              go_wp2
              go_roundw
              case rel => exact ⟨i + 1, true, none, none, 0, 0, 0, ec, [], by omega, by go_num, P5.out.kp0 ((Kp.refl _ w5).drewN _)⟩
              case measure => simp [intOf]; omega
            | true =>
              have PE := Lib.hid (end_no (some ⟨cb, 0, none⟩) 9 (.inr rfl) wr (by simpa using out_at cb ec _ true true wr hP.cut))
              have PR := Lib.hid (rend_over rb _ wr hP.rf)
              clear hP r1
              go_wp2_with (first | (go_at_call 22; (with_reducible refine PE.out.mono ?_); rintro e w' ⟨rfl, rfl⟩) | (go_at_call 23; (with_reducible refine PR.out.mono ?_); rintro e w' ⟨rfl, rfl⟩))
              have c5 := HP.out.r0
              have CSB := fun nq => Calls.quiet_of_same (n := nq) (Calls.turn (same_n none none 0 0 0 0 [] [] (World.drewN wr nq) (RdB.nil _ _) (RdB.nil _ _) rfl rfl))
              simp only [decide_true] at CSB
              have CLF := fun nq => Calls.quiet_of_same (n := nq) (Calls.turn (left_cells cb la n lc (World.drewN wr nq) HP.out.c20))
              go_quiet (first | (go_at_call 24; with_reducible exact CSB _) | (go_at_call 25; exact CLF _))
              go_wp2
              go_roundw
              case rel => exact ⟨i + 1, true, la, ra, n, lc, rc, ec, cur, by omega, by go_num, HP.out.kp0 ((Kp.refl _ wr).drewN _)⟩
              case measure => simp [intOf]; omega
          | false =>
            have CL := Lib.hid (lent_m ai m ci l HM.out wr (r1.kp0 hP.k (fun _ _ h => h)) hm8)
            have CK := Lib.hid (fun w' hg (h' : RdB w' ai l) => kept_m wr.heap.size ai m ci l HM.out w' hg h' hm8)
            have CO := Lib.hid (fun w' hg => over_m wr.heap.size m l HM.out w' hg r1.bd hm8)
            cases ov with
            | true =>
              have PE := Lib.hid (fun w' (k : Kp (fun _ => False) wr w') x xn xc => push_no (some ⟨cb, 0, none⟩) x xn xc 9 (.inr rfl) w' (fun w'' k' => by simpa using out_at cb ec _ true true w'' (hP.kp0 (k.trans k')).cut))
              have PR := Lib.hid (fun w' (k : Kp (fun _ => False) wr w') => rpush_over rb (.slice ra n rc) ai m ci w' (hP.kp0 k).rf)
              have g0' := Lib.hid g0
              clear hP r1
              go_upto_region 20 with (first | (go_at_call 11; (with_reducible refine CL.out.mono ?_); rintro e w1 ⟨rfl, hat, k1⟩; have A1 := Lib.hid hat; have K1 := Lib.hid k1; have h0 := k1.cell g0 (fun h => h); clear hat k1) |
                (go_at_call 26; (with_reducible refine (PE.out _ K1.out _ _ _).mono ?_); rintro e w3 ⟨rfl, k3⟩; have K3 := Lib.hid k3; have h3 := k3.cell h0 (fun h => h); clear k3) |
                (go_at_call 27; (with_reducible refine (PR.out _ (K1.out.trans K3.out)).mono ?_); rintro e w' ⟨rfl, rfl⟩))
              have P3 := Lib.hid (HP.out.kp0 (K1.out.trans K3.out))
              have c5 := P3.out.r0
              have HHH := Lib.hid (And.intro h3 c5)
              have hat3 := K3.out.at A1.out (fun h => h)
              have hr3 := G.out.2.2.kp0 P3.out.k (fun _ _ h => h)
              have C15 := Lib.hid (fun w' (k : Kp (fun _ => False) w3 w') => (samelists_any none none 0 0 0 0 [] [] w' (RdL.nil _ _) (RdL.nil _ _) rfl rfl (by omega)))
              simp only [decide_true] at C15
              have C16 := Lib.hid (fun w' (k : Kp (fun _ => False) w3 w') => CK.out w' (k.at hat3 (fun h => h)) (hr3.kp0 k (fun _ _ h => h)))
              have C17 := Lib.hid (fun w' (k : Kp (fun _ => False) w3 w') => left_cells cb la n lc w' (P3.out.kp0 k).c20)
              clear h0 h3 c5 g0 g1 hat3 hr3
              go_cut [142] (fun sx wx => sx = .bool false ∧ Kp (fun _ => False) w3 wx)
              case first =>
                go_region_held3 (fun w' => Kp (fun _ => False) w3 w' ∧ w'.cell? ⟨b1, o1 + i * 2, none⟩ = some (.slice ai m ci) ∧ w'.cell? ⟨rb, 0, none⟩ = some (.slice ra n rc)) (first | assumption | (exact ⟨(Kp.refl _ w3).drew, HHH.out⟩) | (go_split_ands; exact ⟨Kp.trans ‹_› kq, Kp.cell kq ‹_› (fun h => h), Kp.cell kq ‹_› (fun h => h)⟩)) (first | (go_at_call 15; refine (C15.out _ ?_).mono ?_; (go_split_ands; assumption); rintro e w6 ⟨rfl, kq⟩) | (go_at_call 19; refine (C16.out _ ?_).mono ?_; (go_split_ands; assumption); rintro e w6 ⟨rfl, kq⟩) | (go_at_call 25; refine (C17.out _ ?_).mono ?_; (go_split_ands; assumption); rintro e w6 ⟨rfl, rfl⟩))
                all_goals (go_split_ands; go_wp2_with fail; go_meet; exact ⟨rfl, ‹Kp _ w3 _›⟩)
              case rest =>
                obtain ⟨rfl, k6⟩ := hcut
                have P6 := Lib.hid (P3.out.kp0 k6)
                have COV := Lib.hid (CO.out wc ((K3.out.trans k6).at A1.out (fun h => h)))
                clear C15 C16 C17 HHH k6
                go_wp2_with (go_at_call 18; (with_reducible refine COV.out.mono ?_); rintro e w7 ⟨rfl, k7⟩; have K7 := Lib.hid k7; clear k7)
                have P7 := Lib.hid (P6.out.kp K7.out (fun e => by have := HP.out.cut.lt; omega) (fun e => by have := HP.out.rf.lt; omega) (fun g hg e => by have := HP.out.lf.lt g hg; omega) (fun y hy e => by have := HP.out.raL y hy; omega) (fun j e => by have := HP.out.k.size; omega))
                go_loopw [17] (fun kv wr => kv = .int .i64 0 ∧ w7 = wr) (fun _ _ => 0)
                case atStart => exact ⟨rfl, rfl⟩
                case round =>
                  obtain ⟨rfl, rfl⟩ := hrel
                  go_wp2
                  go_roundw
                  case rel => exact ⟨i + 1, true, la, ra, n, lc, rc, ec, cur, by omega, by go_num, P7.out⟩
                  case measure => simp [intOf]; omega
            | false =>
              have PP := Lib.hid (fun w1 (k : Kp (fun _ => False) wr w1) hat => ps_push hP k l m HM.out hm8 hat r1.bd ai ci G.out.2.2)
              clear hP r1
              go_upto_region 20 with (first | (go_at_call 11; (with_reducible refine CL.out.mono ?_); rintro e w1 ⟨rfl, hat, k1⟩; have A1 := Lib.hid hat; have K1 := Lib.hid k1; have h0 := k1.cell g0 (fun h => h); clear hat k1) |
                (go_at_call 26; (with_reducible refine (PP.out _ K1.out A1.out).mono ?_); rintro e w2 ⟨x, xn, xc, vs, la', n', lc', rfl, k2, hnx⟩; have CR := Lib.hid hnx; have h2 := k2.cell G.out.1 (fun h => h); rw [← HM.out] at h2; clear hnx k2) |
                (go_at_call 27; (with_reducible refine CR.out.mono ?_); rintro e w3 ⟨y, yc, A, C, ls, rfl, hxn, hlm, hLx, hLy, hel, hat3, hgne, hxb, cur', hP3⟩; have P3 := Lib.hid hP3; have LX := Lib.hid (And.intro hLx (And.intro hLy (And.intro hxn hel))); have GN := Lib.hid (And.intro hgne (And.intro hxb hat3)); clear hLx hLy hat3 hgne hxb hP3 hel hxn))
              have h3 := P3.out.k.cell G.out.1 (fun h => h)
              rw [← HM.out] at h3
              have c5 := P3.out.r0
              have HHH := Lib.hid (And.intro h3 c5)
              have hr3 := G.out.2.2.kp0 P3.out.k (fun _ _ h => h)
              have C15 := Lib.hid (fun w' (k : Kp (fun _ => False) w3 w') => (samelists_any x y xn xn xc yc ls ls w' (LX.out.1.rdl.kp0 k (fun _ _ h => h)) (LX.out.2.1.kp0 k (fun _ _ h => h)) LX.out.2.2.1.symm LX.out.2.2.1.symm (by have := LX.out.2.2.1; omega)))
              simp only [decide_true] at C15
              have C16 := Lib.hid (fun w' (k : Kp (fun _ => False) w3 w') => CK.out w' (k.at GN.out.2.2 (fun h => h)) (hr3.kp0 k (fun _ _ h => h)))
              have C17 := Lib.hid (fun w' (k : Kp (fun _ => False) w3 w') => left_cells cb la' n' lc' w' (P3.out.kp0 k).c20)
              clear h0 h2 h3 c5 g0 g1 hr3
              go_cut [142] (fun sx wx => sx = .bool false ∧ Kp (fun _ => False) w3 wx)
              case first =>
                go_region_held3 (fun w' => Kp (fun _ => False) w3 w' ∧ w'.cell? ⟨b1, o1 + i * 2, none⟩ = some (.slice ai m ci) ∧ w'.cell? ⟨rb, 0, none⟩ = some (.slice A n' C)) (first | assumption | (exact ⟨(Kp.refl _ w3).drew, HHH.out⟩) | (go_split_ands; exact ⟨Kp.trans ‹_› kq, Kp.cell kq ‹_› (fun h => h), Kp.cell kq ‹_› (fun h => h)⟩)) (first | (go_at_call 15; refine (C15.out _ ?_).mono ?_; (go_split_ands; assumption); rintro e w6 ⟨rfl, kq⟩) | (go_at_call 19; refine (C16.out _ ?_).mono ?_; (go_split_ands; assumption); rintro e w6 ⟨rfl, kq⟩) | (go_at_call 25; refine (C17.out _ ?_).mono ?_; (go_split_ands; assumption); rintro e w6 ⟨rfl, rfl⟩))
                all_goals (go_split_ands; go_wp2_with fail; go_meet; exact ⟨rfl, ‹Kp _ w3 _›⟩)
              case rest =>
                obtain ⟨rfl, k6⟩ := hcut
                have P6 := Lib.hid (P3.out.kp0 k6)
                have COV := Lib.hid (CO.out wc (k6.at GN.out.2.2 (fun h => h)))
                have K6 := Lib.hid k6
                clear C15 C16 C17 HHH k6
                go_wp2_with (go_at_call 18; (with_reducible refine COV.out.mono ?_); rintro e w7 ⟨rfl, k7⟩; have K7 := Lib.hid k7; clear k7)
                have P7 := Lib.hid (P6.out.kp K7.out (fun e => GN.out.1.1 e.symm) (fun e => GN.out.1.2.1 e.symm) (fun g hg e => GN.out.1.2.2.1 (e ▸ hg)) (fun z hz e => GN.out.1.2.2.2.1 z hz e) (fun j e => by have := HP.out.k.size; omega))
                have L7 := Lib.hid ((LX.out.1.kp K6.out (fun _ _ h => h) (fun _ _ _ _ h => h)).kp K7.out (fun g hg e => by have := GN.out.2.1 g hg; omega) (fun i g hi hg e => GN.out.1.2.2.2.2 i hi (e ▸ hg)))
                go_loopw [17] (fun kv wr => ∃ k : Nat, k ≤ xn ∧ kv = .int .i64 k ∧ Kp (fun g => ∃ j, j < k ∧ (vs.getD j undef).ownBlock = some g) w7 wr) (fun kv _ => xn - (intOf kv).toNat)
                case atStart => exact ⟨0, by omega, rfl, Kp.refl _ _⟩
                case round =>
                  obtain ⟨k, hk, rfl, hkp⟩ := hrel
                  by_cases hltk : k < xn
                  · have hkl : k < ls.length := by rw [← LX.out.2.2.1]; exact hltk
                    have j2 : (k : Int) < xn := by omega
                    have hvl := L7.out.len
                    have how := L7.out.own
                    rw [← LX.out.2.2.1] at how
                    obtain ⟨b, off, rfl, hc⟩ := how.rd k (show k < vs.length by omega)
                    obtain ⟨ai', ci', e, _, _⟩ := (L7.out.each k hkl).form
                    have ho : OwnB wr (vs.getD k undef) (ls.getD k []) := (L7.out.each k hkl).kp hkp (fun g hg ⟨j, hj, hjg⟩ => L7.out.dis j k g hj hkl hjg hg)
                    have hc2 : wr.cell? ⟨b, off + k, none⟩ = some (vs.getD k undef) := hkp.cell hc (fun ⟨j, hj, hjg⟩ => by
                      have hav : (Value.slice (some ⟨b, off, none⟩) xn xc).ownBlock = some b := rfl
                      exact L7.out.apart hav (by omega) (L7.out.each j (by omega)) hjg)
                    rw [e] at hc2 ho
                    have CO2 := Lib.hid (over_own ho)
                    have HK := Lib.hid hkp
                    have HEE := Lib.hid e
                    clear hkp ho how hc
                    generalize (ls.getD k []).length = mk at *
                    go_wp2_with (go_at_call 18; (with_reducible refine CO2.out.mono ?_); rintro e w9 ⟨rfl, k9⟩; have K9 := Lib.hid k9; clear k9)
                    go_roundw
                    case rel => exact ⟨k + 1, by omega, by go_num, (HK.out.mono (fun i _ ⟨j, hj, h⟩ => ⟨j, by omega, h⟩)).then K9.out (fun i _ h => ⟨k, by omega, by rw [HEE.out]; exact h⟩)⟩
                    case measure => simp [intOf]; omega
                  · obtain rfl : k = xn := by omega
                    have hin : ∀ g, (∃ j, j < k ∧ (vs.getD j undef).ownBlock = some g) → w.heap.size ≤ g ∧ g ≠ cb ∧ g ≠ rb ∧ (Value.slice la' n' lc').ownBlock ≠ some g ∧ (∀ z, A = some z → z.block ≠ g) := fun g ⟨j, hj, hjg⟩ => LX.out.2.2.2 g j (by rw [← LX.out.2.2.1]; exact hj) hjg
                    have P8 := Lib.hid (P7.out.kp hkp (fun h => (hin _ h).2.1 rfl) (fun h => (hin _ h).2.2.1 rfl) (fun g hg h => (hin _ h).2.2.2.1 hg) (fun z hz h => (hin _ h).2.2.2.2 z hz rfl) (fun j h => (hin _ h).1))
                    clear hin hkp
                    go_wp2
                    go_roundw
                    case rel => exact ⟨i + 1, false, la', A, n', lc', C, cur', cur', by omega, by go_num, P8.out⟩
                    case measure => simp [intOf]; omega
        · obtain rfl : i = q := by omega
          have HP := Lib.hid hP
          clear hP hlt hiq
          go_wp2_with (go_at_call 20; (with_reducible refine (AW.out _).mono ?_); rintro e w1 ⟨rfl, k1⟩; have K1 := Lib.hid k1; clear k1)
          go_ret
          exact ⟨rfl, (HP.out.k.trans K1.out).below (fun _ _ h => h)⟩
theorem chunkPushes_walk (a0 : Option Addr) (len0 cap0 : Nat) (w : World) (r0 : Rdg Try.prog w 34 [.slice a0 len0 cap0]) :
    Calls Try.prog 4 #[.slice a0 len0 cap0] w fun e w' => e = .returned (.bool true) ∧ Below w.heap.size w w' := by
  obtain ⟨a, ds, cap, e, hr, hm⟩ := rdp_open r0
  simp only [List.cons.injEq, Value.slice.injEq, and_true] at e
  obtain ⟨rfl, rfl, rfl⟩ := e
  by_cases h : 60 < ds.length ∨ 8000 < totP ds ds.length
  · exact pushes_long a0 ds cap0 _ rfl w hr hm h
  · exact pushes_main a0 ds cap0 _ rfl w hr hm (by omega) (by omega)
end Go.Proofs.Ytlabkldpcbmjbaa
