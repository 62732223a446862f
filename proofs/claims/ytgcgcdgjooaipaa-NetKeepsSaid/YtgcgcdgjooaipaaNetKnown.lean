/- The walk of NetKnown: it returns true. No condition. (Written by wip/netkn.py.) -/
import Derived.Test.YtgcgcdgjooaipaaNetKn
namespace Go.Proofs.Ytgcgcdgjooaipaa
open Go.RowKit Go.Maps
set_option linter.unusedVariables false
set_option linter.unusedSimpArgs false
set_option maxHeartbeats 2000000 in
set_option maxRecDepth 20000 in
theorem known_any (w : World) : Calls Try.prog 5 #[] w fun e w' => e = .returned (.bool true) ∧ Kp (fun _ => False) w w' := by
  have CB := Lib.hid (begun_any w)
  have AW := Lib.hid (fun w' => awake_any w')
  have C1 := Lib.hid (fun w' => one_any 0 1 7 (by omega) w')
  have C2 := Lib.hid (fun w' => one_any 0 1 8 (by omega) w')
  have C3 := Lib.hid (fun w' => one_any 64 0 1 (by omega) w')
  have CI := Lib.hid (fun w' nb mb nds a c (h : St w w' nb mb nds 0 0 (fun _ => false)) (hk : nds.map dkey = K3) (hb : RdB w' a [7]) (ho : Off (fun j => Mine nb nds j ∨ j = mb) a) (hc : 1 ≤ c) => is_first h hk a 1 c hb ho rfl hc (by omega))
  have CD := Lib.hid (fun w' nb mb nds (h : St w w' nb mb nds 0 0 (fun _ => false)) (hk : nds.map dkey = [(0, 2, [6]), (0, 1, [5])]) => st_drop0 h (by omega) hk)
  have CL1 := Lib.hid (fun w' nb mb nds (h : St w w' nb mb nds (0 + 1) 0 (fun _ => false)) => (st_lost h : Calls Try.prog 20 #[.pointer (some ⟨nb, 0, none⟩)] w' fun e w'' => e = .returned (.int .i64 1) ∧ w' = w''))
  have CT := Lib.hid (fun w' nb mb nds (h : St w w' nb mb nds (0 + 1) 0 (fun _ => false)) (hk : nds.map dkey = [(0, 1, [5])]) => st_take_no h 9 (.inr (by rw [keys_len hk]; simp)))
  have CC := Lib.hid (fun w' nb mb nds (h : St w w' nb mb nds (0 + 1) 0 (fun _ => false)) => st_cut h (by omega) 1 0 true rfl rfl)
  have CS := Lib.hid (fun w' nb mb nds f a c (h : St w w' nb mb nds (0 + 1) (0 + 1) f) (hf : f (pairV 1 0) = true) (hb : RdB w' a [8]) => st_send_cut h (by omega) 0 1 a 1 c [8] rfl hb rfl rfl (by simp) hf)
  have CL2 := Lib.hid (fun w' nb mb nds f (h : St w w' nb mb nds (0 + 1 + 1) (0 + 1) f) => (st_lost h : Calls Try.prog 20 #[.pointer (some ⟨nb, 0, none⟩)] w' fun e w'' => e = .returned (.int .i64 2) ∧ w' = w''))
  have CC2 := Lib.hid (fun w' nb mb nds f (h : St w w' nb mb nds (0 + 1 + 1) (0 + 1) f) => st_cut_arg h 0 64 true (.inr rfl))
  have CR := Lib.hid (fun w' nb mb nds f (h : St w w' nb mb nds (0 + 1 + 1) (0 + 1) f) (hk : nds.map dkey = [(0, 1, [5])]) => (show Calls Try.prog 17 #[.pointer (some ⟨nb, 0, none⟩), .int .i64 0, .int .i64 8] w' (fun e w'' => e = .returned (.int .i64 5) ∧ Kp (fun _ => False) w' w'') from st_turn_range h 0 (by rw [keys_len hk]; simp) 8 (by omega) (.inr (by rw [(nd_key (nds := nds) (i := 0) (k := (0, 1, [5])) (by rw [hk]; rfl)).2.2.2]; simp))))
  have CS2 := Lib.hid (fun w' nb mb nds f a c (h : St w w' nb mb nds (0 + 1 + 1) (0 + 1) f) => st_send_arg h 64 0 (.slice a 1 c) (.inl rfl) ⟨_, _, _, rfl⟩)
  go_enter Try.func5, Try.ntmps5
  go_wp2_with (first | (go_at_call 21; (with_reducible refine CB.out.mono ?_); rintro e w1 ⟨nb, mb, n1, rfl, hS, hk⟩; have S1 := Lib.hid (And.intro hS hk); clear hS hk) | (go_at_call 19; (with_reducible refine (C1.out _).mono ?_); rintro e v1 ⟨B1, rfl, hB1, g1, k1⟩; obtain ⟨A1, c1, rfl, rr1, cc1⟩ := hB1.form; have H1 := Lib.hid (And.intro hB1 (And.intro g1 (And.intro k1 (And.intro rr1 (show 1 ≤ c1 from cc1))))); clear hB1 g1 k1 rr1 cc1) | (go_at_call 22; (with_reducible refine (CI.out _ _ _ _ _ _ (S1.out.1.kp0 H1.out.2.2.1) S1.out.2 H1.out.2.2.2.1 (off_new S1.out.1 H1.out.2.1) H1.out.2.2.2.2).mono ?_); rintro e w2 ⟨rfl, n2, hS, hk⟩; have S2 := Lib.hid hS; have S2k := Lib.hid (show n2.map dkey = [(0, 2, [6]), (0, 1, [5])] from hk); clear hS hk) | (go_at_call 23; (with_reducible refine (CD.out _ _ _ _ S2.out S2k.out).mono ?_); rintro e w3 ⟨rfl, n3, hS, hk⟩; have S3 := Lib.hid hS; have S3k := Lib.hid (show n3.map dkey = [(0, 1, [5])] from hk); clear hS hk) | (go_at_call 20; (with_reducible refine (CL1.out _ _ _ _ S3.out).mono ?_); rintro e w' ⟨rfl, rfl⟩) | (go_at_call 24; (with_reducible refine (CT.out _ _ _ _ S3.out S3k.out).mono ?_); rintro e w4 ⟨rfl, k4⟩; have S4 := Lib.hid (S3.out.kp0 (k4.alloc (.cells #[.int .i64 0, .int .i64 0, .slice none 0 0] 28))); clear k4) | (go_at_call 18; (with_reducible refine (CC.out _ _ _ _ S4.out).mono ?_); rintro e w5 ⟨rfl, f5, hS, hf, _⟩; have S5 := Lib.hid (And.intro hS hf); clear hS hf) | (go_at_call 19; (with_reducible refine (C2.out _).mono ?_); rintro e v2 ⟨B2, rfl, hB2, g2, k2⟩; obtain ⟨A2, c2, rfl, rr2, cc2⟩ := hB2.form; have H2 := Lib.hid (And.intro hB2 (And.intro g2 (And.intro k2 (And.intro rr2 (show 1 ≤ c2 from cc2))))); clear hB2 g2 k2 rr2 cc2) | (go_at_call 11; (with_reducible refine (CS.out _ _ _ _ _ _ _ (S5.out.1.kp0 H2.out.2.2.1) S5.out.2 H2.out.2.2.2.1).mono ?_); rintro e w6 ⟨rfl, n6, hS, hk⟩; have S6 := Lib.hid (And.intro hS (hk.trans S3k.out)); clear hS hk) | (go_at_call 20; (with_reducible refine (CL2.out _ _ _ _ _ S6.out.1).mono ?_); rintro e w' ⟨rfl, rfl⟩) | (go_at_call 9; (with_reducible refine (AW.out _).mono ?_); rintro e w7 ⟨rfl, k7⟩; have S7 := Lib.hid (S6.out.1.kp0 k7); clear k7) | (go_at_call 18; (with_reducible refine (CC2.out _ _ _ _ _ S7.out).mono ?_); rintro e w' ⟨rfl, rfl⟩) | (go_at_call 17; (with_reducible refine (CR.out _ _ _ _ _ S7.out S6.out.2).mono ?_); rintro e w8 ⟨rfl, k8⟩; have S8 := Lib.hid (S7.out.kp0 k8); clear k8) | (go_at_call 19; (with_reducible refine (C3.out _).mono ?_); rintro e v3 ⟨B3, rfl, hB3, g3, k3⟩; obtain ⟨A3, c3, rfl, rr3, cc3⟩ := hB3.form; have H3 := Lib.hid (And.intro hB3 (And.intro g3 (And.intro k3 (And.intro rr3 (show 1 ≤ c3 from cc3))))); clear hB3 g3 k3 rr3 cc3) | (go_at_call 11; (with_reducible refine (CS2.out _ _ _ _ _ _ _ (S8.out.kp0 H3.out.2.2.1)).mono ?_); rintro e w9 ⟨rfl, k9⟩; have K9 := Lib.hid ((S8.out.kp0 H3.out.2.2.1).k.trans k9); clear k9))
  go_ret
  exact ⟨rfl, K9.out⟩
theorem netKnown_walk (w : World) : Calls Try.prog 5 #[] w fun e w' => e = .returned (.bool true) ∧ Below w.heap.size w w' :=
  (known_any w).mono fun e w' h => ⟨h.1, h.2.below (fun _ _ h => h)⟩
end Go.Proofs.Ytgcgcdgjooaipaa
