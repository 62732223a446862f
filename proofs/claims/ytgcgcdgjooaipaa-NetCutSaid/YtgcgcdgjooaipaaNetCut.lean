/- The walk of NetCut: it returns true, whatever comes in. No condition. (Written by wip/netcut.py.) -/
import Derived.Test.YtgcgcdgjooaipaaNetKn
import Derived.Test.YtgcgcdgjooaipaaPick
import Derived.Deep.DeepCutAuto
import Derived.Test.YtgcgcdgjooaipaaOpen
namespace Go.Proofs.Ytgcgcdgjooaipaa
open Go.RowKit Go.Maps
set_option linter.unusedVariables false
set_option linter.unusedSimpArgs false
theorem firstK_ge : ∀ (K : List (Int × Int × List Int)) (t k : Int), 0 ≤ k → (∃ d ∈ K, d.2.1 = t) → 0 ≤ firstK K t k
  | [], _, _, _, h => by obtain ⟨d, hd, _⟩ := h; cases hd
  | d :: r, t, k, hk, h => by
    unfold firstK
    by_cases he : d.2.1 = t
    · rw [if_pos he]; exact hk
    · rw [if_neg he]
      obtain ⟨x, hx, e⟩ := h
      rcases List.mem_cons.1 hx with rfl | hx
      · exact absurd e he
      · exact firstK_ge r t (k + 1) (by omega) ⟨x, hx, e⟩
theorem pair_eq {a b c d : Int} : pairV c d = pairV a b ↔ (a = c ∧ b = d ∨ a = d ∧ b = c) := by
  unfold pairV
  simp only [Value.agg.injEq]
  constructor
  · intro h
    simp at h
    omega
  · intro h
    rcases h with ⟨rfl, rfl⟩ | ⟨rfl, rfl⟩
    · rfl
    · rw [Int.min_comm, Int.max_comm]
set_option maxHeartbeats 4000000 in
set_option maxRecDepth 20000 in
theorem netcut_true (n1 n2 n3 n4 a b c d : Int) (w : World) (hp1 : ∀ w', Calls Try.prog 15 #[.int .i64 n1, .int .i64 64] w' fun e w'' => e = .returned (.int .i64 a) ∧ w' = w'') (hp2 : ∀ w', Calls Try.prog 15 #[.int .i64 n2, .int .i64 64] w' fun e w'' => e = .returned (.int .i64 b) ∧ w' = w'')
    (hp3 : ∀ w', Calls Try.prog 15 #[.int .i64 n3, .int .i64 64] w' fun e w'' => e = .returned (.int .i64 c) ∧ w' = w'') (hp4 : ∀ w', Calls Try.prog 15 #[.int .i64 n4, .int .i64 64] w' fun e w'' => e = .returned (.int .i64 d) ∧ w' = w'')
    (ha : isEnd a = true) (hb : isEnd b = true) (hc : isEnd c = true) (hd : isEnd d = true) (hq : decide (a = c ∧ b = d ∨ a = d ∧ b = c) = true) (hsm : pairV c d = pairV a b) :
    Calls Try.prog 4 #[.int .i64 n1, .int .i64 n2, .int .i64 n3, .int .i64 n4] w fun e w' => e = .returned (.bool true) ∧ Below w.heap.size w w' := by
  have P1 := Lib.hid hp1
  have P2 := Lib.hid hp2
  have P3 := Lib.hid hp3
  have P4 := Lib.hid hp4
  have AW := Lib.hid (fun w' => awake_any w')
  have hbm : pairV b a = pairV a b := by unfold pairV; rw [Int.min_comm, Int.max_comm]
  have CN := Lib.hid (fun w' (k : Kp (fun _ => False) w w') => (st_new w').mono (fun e w'' h => (⟨h.choose, h.choose_spec.choose, h.choose_spec.choose_spec.1, ⟨h.choose_spec.choose_spec.2.n, fun b hb => Nat.le_trans k.size (h.choose_spec.choose_spec.2.ge b hb), k.trans h.choose_spec.choose_spec.2.k⟩⟩ : ∃ nb mb, e = .returned (.pointer (some ⟨nb, 0, none⟩)) ∧ St w w'' nb mb [] 0 0 (fun _ => false))))
  have CC := Lib.hid (fun w' nb mb (h : St w w' nb mb [] 0 0 (fun _ => false)) => st_cut h (by omega) a b true ha hb)
  have C1 := Lib.hid (fun w' => one_any a b 1 (by omega) w')
  have C2 := Lib.hid (fun w' => one_any b a 1 (by omega) w')
  have C3 := Lib.hid (fun w' => one_any c d 1 (by omega) w')
  have C4 := Lib.hid (fun w' => one_any a b 1 (by omega) w')
  have CS1 := Lib.hid (fun w' nb mb f A C (h : St w w' nb mb [] 0 (0 + 1) f) (hf : f (pairV a b) = true) (hb' : RdB w' A [1]) => st_send_cut h (by omega) a b A 1 C [1] rfl hb' ha hb (by simp) hf)
  have CS2 := Lib.hid (fun w' nb mb nds f A C (h : St w w' nb mb nds (0 + 1) (0 + 1) f) (hf : f (pairV a b) = true) (hb' : RdB w' A [1]) => st_send_cut h (by omega) b a A 1 C [1] rfl hb' hb ha (by simp) (by rw [hbm]; exact hf))
  have CL2 := Lib.hid (fun w' nb mb nds f (h : St w w' nb mb nds (0 + 1 + 1) (0 + 1) f) => (show Calls Try.prog 20 #[.pointer (some ⟨nb, 0, none⟩)] w' (fun e w'' => e = .returned (.int .i64 2) ∧ w' = w'') from st_lost h))
  have CW0 := Lib.hid (fun w' nb mb nds f (h : St w w' nb mb nds (0 + 1 + 1) (0 + 1) f) (hk : nds.map dkey = []) => (st_waiting h).mono (fun e w'' hh => (by obtain ⟨A, C, es, e1, _, _, _, _, k⟩ := hh; have e0 : nds.length = 0 := keys_len hk; rw [e0] at e1; exact ⟨A, C, e1, k⟩ : ∃ A C, e = .returned (.slice A 0 C) ∧ Kp (fun _ => False) w' w'')))
  have CS3 := Lib.hid (fun w' nb mb nds f A C (h : St w w' nb mb nds (0 + 1 + 1) (0 + 1) f) (hf : f (pairV a b) = true) (hx : ∀ u, u ≠ pairV a b → f u = false) (hb' : RdB w' A [1]) (hk : nds.map dkey = []) => (by have h2 := st_send_cut h (by omega) c d A 1 C [1] rfl hb' hc hd (by simp) (by rw [hsm]; exact hf); rw [hk] at h2; exact h2 : Calls Try.prog 11 #[.pointer (some ⟨nb, 0, none⟩), .agg #[.int .i64 c, .int .i64 d, .slice A 1 C]] w' fun e w'' => e = .returned (.int .i64 0) ∧ ∃ nds', St w w'' nb mb nds' (0 + 1 + 1 + 1) (0 + 1) f ∧ nds'.map dkey = []))
  have CL3 := Lib.hid (fun w' nb mb nds f (h : St w w' nb mb nds (0 + 1 + 1 + 1) (0 + 1) f) => (show Calls Try.prog 20 #[.pointer (some ⟨nb, 0, none⟩)] w' (fun e w'' => e = .returned (.int .i64 3) ∧ w' = w'') from st_lost h))
  have CW1 := Lib.hid (fun w' nb mb nds f (h : St w w' nb mb nds (0 + 1 + 1 + 1) (0 + 1) f) (hk : nds.map dkey = []) => (st_waiting h).mono (fun e w'' hh => (by obtain ⟨A, C, es, e1, _, _, _, _, k⟩ := hh; have e0 : nds.length = 0 := keys_len hk; rw [e0] at e1; exact ⟨A, C, e1, k⟩ : ∃ A C, e = .returned (.slice A 0 C) ∧ Kp (fun _ => False) w' w'')))
  have CC2 := Lib.hid (fun w' nb mb nds f (h : St w w' nb mb nds (0 + 1 + 1 + 1) (0 + 1) f) => st_cut h (by omega) b a false hb ha)
  have CS4 := Lib.hid (fun w' nb mb nds f A C (h : St w w' nb mb nds (0 + 1 + 1 + 1) (0 + 1 + 1) f) (hf : f (pairV b a) = false) (hb' : RdB w' A [1]) (hk : nds.map dkey = []) => (by have h2 := st_send h (by omega) a b A 1 C [1] rfl hb' ha hb (by simp) (by rw [← hbm]; exact hf) (by rw [keys_len hk]; simp); rw [hk] at h2; exact h2 : Calls Try.prog 11 #[.pointer (some ⟨nb, 0, none⟩), .agg #[.int .i64 a, .int .i64 b, .slice A 1 C]] w' fun e w'' => e = .returned (.int .i64 0) ∧ ∃ nds', St w w'' nb mb nds' (0 + 1 + 1 + 1) (0 + 1 + 1) f ∧ nds'.map dkey = [] ++ [(a, b, [1])]))
  have CF := Lib.hid (fun w' nb mb nds f (h : St w w' nb mb nds (0 + 1 + 1 + 1) (0 + 1 + 1) f) (hk : nds.map dkey = [] ++ [(a, b, [1])]) => (st_first h b).mono (fun e w'' hh => (⟨_, hh.1, by rw [hk]; exact firstK_ge _ b 0 (by omega) ⟨(a, b, [1]), by simp, rfl⟩, hh.2⟩ : ∃ v, e = .returned (.int .i64 v) ∧ 0 ≤ v ∧ Kp (fun _ => False) w' w'')))
  have HQ := Lib.hid hq
  clear hp1 hp2 hp3 hp4 hq hsm hbm ha hb hc hd
  go_enter Try.func4, Try.ntmps4
  go_upto_region 8 with (first | (go_at_call 9; (with_reducible refine (AW.out _).mono ?_); rintro e w1 ⟨rfl, k1⟩; have K1 := Lib.hid k1; clear k1) | (go_at_call 10; (with_reducible refine (CN.out _ K1.out).mono ?_); rintro e w2 ⟨nb, mb, rfl, hS⟩; have S2 := Lib.hid hS; clear hS) | (go_at_call 15; (with_reducible refine (P1.out _).mono ?_); rintro e w' ⟨rfl, rfl⟩) | (go_at_call 15; (with_reducible refine (P2.out _).mono ?_); rintro e w' ⟨rfl, rfl⟩) | (go_at_call 15; (with_reducible refine (P3.out _).mono ?_); rintro e w' ⟨rfl, rfl⟩) | (go_at_call 15; (with_reducible refine (P4.out _).mono ?_); rintro e w' ⟨rfl, rfl⟩) | (go_at_call 18; (with_reducible refine (CC.out _ _ _ S2.out).mono ?_); rintro e w3 ⟨rfl, f1, hS, hf, hg⟩; have S3 := Lib.hid hS; have F1 := Lib.hid (And.intro hf hg); clear hS hf hg) | (go_at_call 19; (with_reducible refine (C1.out _).mono ?_); rintro e v1 ⟨B1, rfl, hB1, g1, k1⟩; obtain ⟨A1, c1, rfl, rr1, cc1⟩ := hB1.form; have H1 := Lib.hid (And.intro hB1 (And.intro g1 (And.intro k1 (And.intro rr1 (show 1 ≤ c1 from cc1))))); clear hB1 g1 k1 rr1 cc1) | (go_at_call 11; (with_reducible refine (CS1.out _ _ _ _ _ _ (S3.out.kp0 H1.out.2.2.1) F1.out.1 H1.out.2.2.2.1).mono ?_); rintro e w4 ⟨rfl, n4, hS, hk⟩; have S4 := Lib.hid hS; have K4 := Lib.hid (show n4.map dkey = [] from hk); clear hS hk) | (go_at_call 19; (with_reducible refine (C2.out _).mono ?_); rintro e v2 ⟨B2, rfl, hB2, g2, k2⟩; obtain ⟨A2, c2, rfl, rr2, cc2⟩ := hB2.form; have H2 := Lib.hid (And.intro hB2 (And.intro g2 (And.intro k2 (And.intro rr2 (show 1 ≤ c2 from cc2))))); clear hB2 g2 k2 rr2 cc2) | (go_at_call 11; (with_reducible refine (CS2.out _ _ _ _ _ _ _ (S4.out.kp0 H2.out.2.2.1) F1.out.1 H2.out.2.2.2.1).mono ?_); rintro e w5 ⟨rfl, n5, hS, hk⟩; have S5 := Lib.hid hS; have K5 := Lib.hid (hk.trans K4.out); clear hS hk) | (go_at_call 20; (with_reducible refine (CL2.out _ _ _ _ _ S5.out).mono ?_); rintro e w' ⟨rfl, rfl⟩) | (go_at_call 13; (with_reducible refine (CW0.out _ _ _ _ _ S5.out K5.out).mono ?_); rintro e w6 ⟨A6, c6, rfl, k⟩; have S6 := Lib.hid (S5.out.kp0 k); clear k) | (go_at_call 19; (with_reducible refine (C3.out _).mono ?_); rintro e v3 ⟨B3, rfl, hB3, g3, k3⟩; obtain ⟨A3, c3, rfl, rr3, cc3⟩ := hB3.form; have H3 := Lib.hid (And.intro hB3 (And.intro g3 (And.intro k3 (And.intro rr3 (show 1 ≤ c3 from cc3))))); clear hB3 g3 k3 rr3 cc3) | (go_at_call 11; (with_reducible refine (CS3.out _ _ _ _ _ _ _ (S6.out.kp0 H3.out.2.2.1) F1.out.1 F1.out.2 H3.out.2.2.2.1 K5.out).mono ?_); rintro e w7 ⟨rfl, n7, hS, hk⟩; have S7 := Lib.hid hS; have K7 := Lib.hid hk; clear hS hk))
  have hz := HQ.out
  go_cut [11] (fun s wx => s = .bool true ∧ wx = w7)
  case first =>
    by_cases h1 : a = c
    · by_cases h2 : b = d
      · have q1 : (a == c) = true := by simpa using h1
        have q2 : (b == d) = true := by simpa using h2
        clear hz h1 h2
        go_wp2_with fail; go_meet; exact ⟨rfl, rfl⟩
      · by_cases h3 : a = d
        · by_cases h4 : b = c
          · omega
          · have q1 : (a == c) = true := by simpa using h1
            have q2 : (b == d) = false := by simpa using h2
            have q3 : (a == d) = true := by simpa using h3
            have q4 : (b == c) = false := by simpa using h4
            simp [h2, h4] at hz
            
        · have q1 : (a == c) = true := by simpa using h1
          have q2 : (b == d) = false := by simpa using h2
          have q3 : (a == d) = false := by simpa using h3
          simp [h2, h3] at hz
          
    · by_cases h3 : a = d
      · by_cases h4 : b = c
        · have q1 : (a == c) = false := by simpa using h1
          have q3 : (a == d) = true := by simpa using h3
          have q4 : (b == c) = true := by simpa using h4
          clear hz h1 h3 h4
          go_wp2_with fail; go_meet; exact ⟨rfl, rfl⟩
        · have q1 : (a == c) = false := by simpa using h1
          have q3 : (a == d) = true := by simpa using h3
          have q4 : (b == c) = false := by simpa using h4
          simp [h1, h4] at hz
          
      · have q1 : (a == c) = false := by simpa using h1
        have q3 : (a == d) = false := by simpa using h3
        simp [h1, h3] at hz
        
  case rest =>
    obtain ⟨rfl, rfl⟩ := hcut
    clear hz
    go_wp2_with (first | (go_at_call 20; (with_reducible refine (CL3.out _ _ _ _ _ S7.out).mono ?_); rintro e w' ⟨rfl, rfl⟩) | (go_at_call 13; (with_reducible refine (CW1.out _ _ _ _ _ S7.out K7.out).mono ?_); rintro e w8 ⟨A8, c8, rfl, k⟩; have S8 := Lib.hid (S7.out.kp0 k); clear k) | (go_at_call 18; (with_reducible refine (CC2.out _ _ _ _ _ S8.out).mono ?_); rintro e w9 ⟨rfl, f2, hS, hf, _⟩; have S9 := Lib.hid hS; have F2 := Lib.hid hf; clear hS hf) | (go_at_call 19; (with_reducible refine (C4.out _).mono ?_); rintro e v4 ⟨B4, rfl, hB4, g4, k4⟩; obtain ⟨A4, c4, rfl, rr4, cc4⟩ := hB4.form; have H4 := Lib.hid (And.intro hB4 (And.intro g4 (And.intro k4 (And.intro rr4 (show 1 ≤ c4 from cc4))))); clear hB4 g4 k4 rr4 cc4) | (go_at_call 11; (with_reducible refine (CS4.out _ _ _ _ _ _ _ (S9.out.kp0 H4.out.2.2.1) F2.out H4.out.2.2.2.1 K7.out).mono ?_); rintro e w10 ⟨rfl, n10, hS, hk⟩; have S10 := Lib.hid hS; have K10 := Lib.hid hk; clear hS hk) | (go_at_call 14; (with_reducible refine (CF.out _ _ _ _ _ S10.out K10.out).mono ?_); rintro e w11 ⟨v, rfl, hv, k⟩; have S11 := Lib.hid (S10.out.kp0 k); clear k))
    go_ret
    exact ⟨rfl, S11.out.k.below (fun _ _ h => h)⟩
set_option maxHeartbeats 4000000 in
set_option maxRecDepth 20000 in
theorem netcut_false (n1 n2 n3 n4 a b c d : Int) (w : World) (hp1 : ∀ w', Calls Try.prog 15 #[.int .i64 n1, .int .i64 64] w' fun e w'' => e = .returned (.int .i64 a) ∧ w' = w'') (hp2 : ∀ w', Calls Try.prog 15 #[.int .i64 n2, .int .i64 64] w' fun e w'' => e = .returned (.int .i64 b) ∧ w' = w'')
    (hp3 : ∀ w', Calls Try.prog 15 #[.int .i64 n3, .int .i64 64] w' fun e w'' => e = .returned (.int .i64 c) ∧ w' = w'') (hp4 : ∀ w', Calls Try.prog 15 #[.int .i64 n4, .int .i64 64] w' fun e w'' => e = .returned (.int .i64 d) ∧ w' = w'')
    (ha : isEnd a = true) (hb : isEnd b = true) (hc : isEnd c = true) (hd : isEnd d = true) (hq : decide (a = c ∧ b = d ∨ a = d ∧ b = c) = false) (hsm : pairV c d ≠ pairV a b) :
    Calls Try.prog 4 #[.int .i64 n1, .int .i64 n2, .int .i64 n3, .int .i64 n4] w fun e w' => e = .returned (.bool true) ∧ Below w.heap.size w w' := by
  have P1 := Lib.hid hp1
  have P2 := Lib.hid hp2
  have P3 := Lib.hid hp3
  have P4 := Lib.hid hp4
  have AW := Lib.hid (fun w' => awake_any w')
  have hbm : pairV b a = pairV a b := by unfold pairV; rw [Int.min_comm, Int.max_comm]
  have CN := Lib.hid (fun w' (k : Kp (fun _ => False) w w') => (st_new w').mono (fun e w'' h => (⟨h.choose, h.choose_spec.choose, h.choose_spec.choose_spec.1, ⟨h.choose_spec.choose_spec.2.n, fun b hb => Nat.le_trans k.size (h.choose_spec.choose_spec.2.ge b hb), k.trans h.choose_spec.choose_spec.2.k⟩⟩ : ∃ nb mb, e = .returned (.pointer (some ⟨nb, 0, none⟩)) ∧ St w w'' nb mb [] 0 0 (fun _ => false))))
  have CC := Lib.hid (fun w' nb mb (h : St w w' nb mb [] 0 0 (fun _ => false)) => st_cut h (by omega) a b true ha hb)
  have C1 := Lib.hid (fun w' => one_any a b 1 (by omega) w')
  have C2 := Lib.hid (fun w' => one_any b a 1 (by omega) w')
  have C3 := Lib.hid (fun w' => one_any c d 1 (by omega) w')
  have C4 := Lib.hid (fun w' => one_any a b 1 (by omega) w')
  have CS1 := Lib.hid (fun w' nb mb f A C (h : St w w' nb mb [] 0 (0 + 1) f) (hf : f (pairV a b) = true) (hb' : RdB w' A [1]) => st_send_cut h (by omega) a b A 1 C [1] rfl hb' ha hb (by simp) hf)
  have CS2 := Lib.hid (fun w' nb mb nds f A C (h : St w w' nb mb nds (0 + 1) (0 + 1) f) (hf : f (pairV a b) = true) (hb' : RdB w' A [1]) => st_send_cut h (by omega) b a A 1 C [1] rfl hb' hb ha (by simp) (by rw [hbm]; exact hf))
  have CL2 := Lib.hid (fun w' nb mb nds f (h : St w w' nb mb nds (0 + 1 + 1) (0 + 1) f) => (show Calls Try.prog 20 #[.pointer (some ⟨nb, 0, none⟩)] w' (fun e w'' => e = .returned (.int .i64 2) ∧ w' = w'') from st_lost h))
  have CW0 := Lib.hid (fun w' nb mb nds f (h : St w w' nb mb nds (0 + 1 + 1) (0 + 1) f) (hk : nds.map dkey = []) => (st_waiting h).mono (fun e w'' hh => (by obtain ⟨A, C, es, e1, _, _, _, _, k⟩ := hh; have e0 : nds.length = 0 := keys_len hk; rw [e0] at e1; exact ⟨A, C, e1, k⟩ : ∃ A C, e = .returned (.slice A 0 C) ∧ Kp (fun _ => False) w' w'')))
  have CS3 := Lib.hid (fun w' nb mb nds f A C (h : St w w' nb mb nds (0 + 1 + 1) (0 + 1) f) (hf : f (pairV a b) = true) (hx : ∀ u, u ≠ pairV a b → f u = false) (hb' : RdB w' A [1]) (hk : nds.map dkey = []) => (by have h2 := st_send h (by omega) c d A 1 C [1] rfl hb' hc hd (by simp) (hx _ hsm) (by rw [keys_len hk]; simp); rw [hk] at h2; exact h2 : Calls Try.prog 11 #[.pointer (some ⟨nb, 0, none⟩), .agg #[.int .i64 c, .int .i64 d, .slice A 1 C]] w' fun e w'' => e = .returned (.int .i64 0) ∧ ∃ nds', St w w'' nb mb nds' (0 + 1 + 1) (0 + 1) f ∧ nds'.map dkey = [(c, d, [1])]))
  have CL3 := Lib.hid (fun w' nb mb nds f (h : St w w' nb mb nds (0 + 1 + 1) (0 + 1) f) => (show Calls Try.prog 20 #[.pointer (some ⟨nb, 0, none⟩)] w' (fun e w'' => e = .returned (.int .i64 2) ∧ w' = w'') from st_lost h))
  have CW1 := Lib.hid (fun w' nb mb nds f (h : St w w' nb mb nds (0 + 1 + 1) (0 + 1) f) (hk : nds.map dkey = [(c, d, [1])]) => (st_waiting h).mono (fun e w'' hh => (by obtain ⟨A, C, es, e1, _, _, _, _, k⟩ := hh; have e0 : nds.length = 1 := keys_len hk; rw [e0] at e1; exact ⟨A, C, e1, k⟩ : ∃ A C, e = .returned (.slice A 1 C) ∧ Kp (fun _ => False) w' w'')))
  have CC2 := Lib.hid (fun w' nb mb nds f (h : St w w' nb mb nds (0 + 1 + 1) (0 + 1) f) => st_cut h (by omega) b a false hb ha)
  have CS4 := Lib.hid (fun w' nb mb nds f A C (h : St w w' nb mb nds (0 + 1 + 1) (0 + 1 + 1) f) (hf : f (pairV b a) = false) (hb' : RdB w' A [1]) (hk : nds.map dkey = [(c, d, [1])]) => (by have h2 := st_send h (by omega) a b A 1 C [1] rfl hb' ha hb (by simp) (by rw [← hbm]; exact hf) (by rw [keys_len hk]; simp); rw [hk] at h2; exact h2 : Calls Try.prog 11 #[.pointer (some ⟨nb, 0, none⟩), .agg #[.int .i64 a, .int .i64 b, .slice A 1 C]] w' fun e w'' => e = .returned (.int .i64 0) ∧ ∃ nds', St w w'' nb mb nds' (0 + 1 + 1) (0 + 1 + 1) f ∧ nds'.map dkey = [(c, d, [1])] ++ [(a, b, [1])]))
  have CF := Lib.hid (fun w' nb mb nds f (h : St w w' nb mb nds (0 + 1 + 1) (0 + 1 + 1) f) (hk : nds.map dkey = [(c, d, [1])] ++ [(a, b, [1])]) => (st_first h b).mono (fun e w'' hh => (⟨_, hh.1, by rw [hk]; exact firstK_ge _ b 0 (by omega) ⟨(a, b, [1]), by simp, rfl⟩, hh.2⟩ : ∃ v, e = .returned (.int .i64 v) ∧ 0 ≤ v ∧ Kp (fun _ => False) w' w'')))
  have HQ := Lib.hid hq
  clear hp1 hp2 hp3 hp4 hq hsm hbm ha hb hc hd
  go_enter Try.func4, Try.ntmps4
  go_upto_region 8 with (first | (go_at_call 9; (with_reducible refine (AW.out _).mono ?_); rintro e w1 ⟨rfl, k1⟩; have K1 := Lib.hid k1; clear k1) | (go_at_call 10; (with_reducible refine (CN.out _ K1.out).mono ?_); rintro e w2 ⟨nb, mb, rfl, hS⟩; have S2 := Lib.hid hS; clear hS) | (go_at_call 15; (with_reducible refine (P1.out _).mono ?_); rintro e w' ⟨rfl, rfl⟩) | (go_at_call 15; (with_reducible refine (P2.out _).mono ?_); rintro e w' ⟨rfl, rfl⟩) | (go_at_call 15; (with_reducible refine (P3.out _).mono ?_); rintro e w' ⟨rfl, rfl⟩) | (go_at_call 15; (with_reducible refine (P4.out _).mono ?_); rintro e w' ⟨rfl, rfl⟩) | (go_at_call 18; (with_reducible refine (CC.out _ _ _ S2.out).mono ?_); rintro e w3 ⟨rfl, f1, hS, hf, hg⟩; have S3 := Lib.hid hS; have F1 := Lib.hid (And.intro hf hg); clear hS hf hg) | (go_at_call 19; (with_reducible refine (C1.out _).mono ?_); rintro e v1 ⟨B1, rfl, hB1, g1, k1⟩; obtain ⟨A1, c1, rfl, rr1, cc1⟩ := hB1.form; have H1 := Lib.hid (And.intro hB1 (And.intro g1 (And.intro k1 (And.intro rr1 (show 1 ≤ c1 from cc1))))); clear hB1 g1 k1 rr1 cc1) | (go_at_call 11; (with_reducible refine (CS1.out _ _ _ _ _ _ (S3.out.kp0 H1.out.2.2.1) F1.out.1 H1.out.2.2.2.1).mono ?_); rintro e w4 ⟨rfl, n4, hS, hk⟩; have S4 := Lib.hid hS; have K4 := Lib.hid (show n4.map dkey = [] from hk); clear hS hk) | (go_at_call 19; (with_reducible refine (C2.out _).mono ?_); rintro e v2 ⟨B2, rfl, hB2, g2, k2⟩; obtain ⟨A2, c2, rfl, rr2, cc2⟩ := hB2.form; have H2 := Lib.hid (And.intro hB2 (And.intro g2 (And.intro k2 (And.intro rr2 (show 1 ≤ c2 from cc2))))); clear hB2 g2 k2 rr2 cc2) | (go_at_call 11; (with_reducible refine (CS2.out _ _ _ _ _ _ _ (S4.out.kp0 H2.out.2.2.1) F1.out.1 H2.out.2.2.2.1).mono ?_); rintro e w5 ⟨rfl, n5, hS, hk⟩; have S5 := Lib.hid hS; have K5 := Lib.hid (hk.trans K4.out); clear hS hk) | (go_at_call 20; (with_reducible refine (CL2.out _ _ _ _ _ S5.out).mono ?_); rintro e w' ⟨rfl, rfl⟩) | (go_at_call 13; (with_reducible refine (CW0.out _ _ _ _ _ S5.out K5.out).mono ?_); rintro e w6 ⟨A6, c6, rfl, k⟩; have S6 := Lib.hid (S5.out.kp0 k); clear k) | (go_at_call 19; (with_reducible refine (C3.out _).mono ?_); rintro e v3 ⟨B3, rfl, hB3, g3, k3⟩; obtain ⟨A3, c3, rfl, rr3, cc3⟩ := hB3.form; have H3 := Lib.hid (And.intro hB3 (And.intro g3 (And.intro k3 (And.intro rr3 (show 1 ≤ c3 from cc3))))); clear hB3 g3 k3 rr3 cc3) | (go_at_call 11; (with_reducible refine (CS3.out _ _ _ _ _ _ _ (S6.out.kp0 H3.out.2.2.1) F1.out.1 F1.out.2 H3.out.2.2.2.1 K5.out).mono ?_); rintro e w7 ⟨rfl, n7, hS, hk⟩; have S7 := Lib.hid hS; have K7 := Lib.hid hk; clear hS hk))
  have hz := HQ.out
  go_cut [11] (fun s wx => s = .bool false ∧ wx = w7)
  case first =>
    by_cases h1 : a = c
    · by_cases h2 : b = d
      · have q1 : (a == c) = true := by simpa using h1
        have q2 : (b == d) = true := by simpa using h2
        simp [h1, h2] at hz
        
      · by_cases h3 : a = d
        · by_cases h4 : b = c
          · omega
          · have q1 : (a == c) = true := by simpa using h1
            have q2 : (b == d) = false := by simpa using h2
            have q3 : (a == d) = true := by simpa using h3
            have q4 : (b == c) = false := by simpa using h4
            clear hz h1 h2 h3 h4
            go_wp2_with fail; go_meet; exact ⟨rfl, rfl⟩
        · have q1 : (a == c) = true := by simpa using h1
          have q2 : (b == d) = false := by simpa using h2
          have q3 : (a == d) = false := by simpa using h3
          clear hz h1 h2 h3
          go_wp2_with fail; go_meet; exact ⟨rfl, rfl⟩
    · by_cases h3 : a = d
      · by_cases h4 : b = c
        · have q1 : (a == c) = false := by simpa using h1
          have q3 : (a == d) = true := by simpa using h3
          have q4 : (b == c) = true := by simpa using h4
          simp [h3, h4] at hz
          
        · have q1 : (a == c) = false := by simpa using h1
          have q3 : (a == d) = true := by simpa using h3
          have q4 : (b == c) = false := by simpa using h4
          clear hz h1 h3 h4
          go_wp2_with fail; go_meet; exact ⟨rfl, rfl⟩
      · have q1 : (a == c) = false := by simpa using h1
        have q3 : (a == d) = false := by simpa using h3
        clear hz h1 h3
        go_wp2_with fail; go_meet; exact ⟨rfl, rfl⟩
  case rest =>
    obtain ⟨rfl, rfl⟩ := hcut
    clear hz
    go_wp2_with (first | (go_at_call 20; (with_reducible refine (CL3.out _ _ _ _ _ S7.out).mono ?_); rintro e w' ⟨rfl, rfl⟩) | (go_at_call 13; (with_reducible refine (CW1.out _ _ _ _ _ S7.out K7.out).mono ?_); rintro e w8 ⟨A8, c8, rfl, k⟩; have S8 := Lib.hid (S7.out.kp0 k); clear k) | (go_at_call 18; (with_reducible refine (CC2.out _ _ _ _ _ S8.out).mono ?_); rintro e w9 ⟨rfl, f2, hS, hf, _⟩; have S9 := Lib.hid hS; have F2 := Lib.hid hf; clear hS hf) | (go_at_call 19; (with_reducible refine (C4.out _).mono ?_); rintro e v4 ⟨B4, rfl, hB4, g4, k4⟩; obtain ⟨A4, c4, rfl, rr4, cc4⟩ := hB4.form; have H4 := Lib.hid (And.intro hB4 (And.intro g4 (And.intro k4 (And.intro rr4 (show 1 ≤ c4 from cc4))))); clear hB4 g4 k4 rr4 cc4) | (go_at_call 11; (with_reducible refine (CS4.out _ _ _ _ _ _ _ (S9.out.kp0 H4.out.2.2.1) F2.out H4.out.2.2.2.1 K7.out).mono ?_); rintro e w10 ⟨rfl, n10, hS, hk⟩; have S10 := Lib.hid hS; have K10 := Lib.hid hk; clear hS hk) | (go_at_call 14; (with_reducible refine (CF.out _ _ _ _ _ S10.out K10.out).mono ?_); rintro e w11 ⟨v, rfl, hv, k⟩; have S11 := Lib.hid (S10.out.kp0 k); clear k))
    go_ret
    exact ⟨rfl, S11.out.k.below (fun _ _ h => h)⟩
theorem pick64 (n : Int) (hn : -9223372036854775808 ≤ n ∧ n ≤ 9223372036854775807) : ∃ a, isEnd a = true ∧ ∀ w', Calls Try.prog 15 #[.int .i64 n, .int .i64 64] w' fun e w'' => e = .returned (.int .i64 a) ∧ w' = w'' := by
  have h1 := Int.emod_nonneg n (show (64 : Int) ≠ 0 by omega)
  have h2 := Int.emod_lt_of_pos n (show (0 : Int) < 64 by omega)
  exact ⟨n % 64, by simp [isEnd]; omega, fun w' => pick_any n 64 w' hn (by omega)⟩
theorem netCut_walk (n0 n1 n2 n3 : Int) (w : World) (r0 : Rdg Try.prog w 3 (Value.int .i64 n0).cells.toList) (r1 : Rdg Try.prog w 3 (Value.int .i64 n1).cells.toList) (r2 : Rdg Try.prog w 3 (Value.int .i64 n2).cells.toList) (r3 : Rdg Try.prog w 3 (Value.int .i64 n3).cells.toList) :
    Calls Try.prog 4 #[.int .i64 n0, .int .i64 n1, .int .i64 n2, .int .i64 n3] w fun e w' => e = .returned (.bool true) ∧ Below w.heap.size w w' := by
  have bd : ∀ n : Int, Rdg Try.prog w 3 (Value.int .i64 n).cells.toList → -9223372036854775808 ≤ n ∧ n ≤ 9223372036854775807 := fun n r => by
    obtain ⟨k, e1, hk⟩ := Rdg.int Try.underlying3 r
    have e2 : n = k := by have : [Value.int .i64 n] = [.int .i64 k] := e1; simpa using this
    subst e2
    simp [Lit.wf, IntKind.min, IntKind.max, IntKind.signed, IntKind.bits] at hk
    omega
  obtain ⟨a, ha, p0⟩ := pick64 n0 (bd n0 r0)
  obtain ⟨b, hb, p1⟩ := pick64 n1 (bd n1 r1)
  obtain ⟨c, hc, p2⟩ := pick64 n2 (bd n2 r2)
  obtain ⟨d, hd, p3⟩ := pick64 n3 (bd n3 r3)
  by_cases h : a = c ∧ b = d ∨ a = d ∧ b = c
  · exact netcut_true n0 n1 n2 n3 a b c d w p0 p1 p2 p3 ha hb hc hd (decide_eq_true h) (pair_eq.2 h)
  · exact netcut_false n0 n1 n2 n3 a b c d w p0 p1 p2 p3 ha hb hc hd (decide_eq_false h) (fun e => h (pair_eq.1 e))
end Go.Proofs.Ytgcgcdgjooaipaa
