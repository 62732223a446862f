/- The walk of ChunkPieces: it returns true, whatever comes in. No condition. (Written by wip/chkpieces.py.) -/
import Derived.Test.YtlabkldpcbmjbaaPcs
import Derived.Test.YtlabkldpcbmjbaaChunkKnown
import Derived.Test.YtlabkldpcbmjbaaChunkAlone
import Derived.Test.YtlabkldpcbmjbaaLists
namespace Go.Proofs.Ytlabkldpcbmjbaa
open Go.RowKit
set_option linter.unusedVariables false
set_option linter.unusedSimpArgs false
set_option maxHeartbeats 4000000 in
set_option maxRecDepth 20000 in
theorem pieces_main (a a2 : Option Addr) (cap cap2 L m : Nat) (l cuts : List Int) (hL : L = l.length) (hm : m = cuts.length) (w : World) (h : RdB w a l) (h2 : Rdi w a2 cuts) (hcap : L ≤ cap) (hcm : cap ≤ maxLen) (hl : L ≤ 8000) (hm1 : m ≤ 100) :
    Calls Try.prog 6 #[.slice a L cap, .slice a2 m cap2] w fun e w' => e = .returned (.bool true) ∧ Below w.heap.size w w' := by
  have AW := Lib.hid (fun w' => awake_any w')
  have CN := Lib.hid (fun w' (k : Kp (fun _ => False) w w') => (new_cut w').mono (fun e w'' h => (⟨h.choose, h.choose_spec.1, pc_new h.choose_spec.2.2.1 (Nat.le_trans k.size h.choose_spec.2.1) (k.trans h.choose_spec.2.2.2)⟩ : ∃ cb, e = .returned (.pointer (some ⟨cb, 0, none⟩)) ∧ Pc w w'' cb (.slice none 0 0) (.slice none 0 0) [] [])))
  have PK := Lib.hid (fun (z : Int) (m : Nat) (hz : -9223372036854775808 ≤ z ∧ z ≤ 9223372036854775807) (hm : 0 < m) (hm2 : m ≤ 100000) => pick_nat z m hz hm hm2)
  have hcl := chunks_len l
  have CS := Lib.hid (fun w' (k : Kp (fun _ => False) w w') => (by rw [hL]; exact split_any a cap l w' (h.kp0 k (fun _ _ h => h)) (by omega) (by omega) hcm : Calls Try.prog 12 #[.slice a L cap] w' fun e w'' => ∃ v vs, e = .returned v ∧ LLs w'.heap.size w'' v (chunks l) vs ∧ Kp (fun _ => False) w' w''))
  have CLS := Lib.hid (fun w' A B c d vs us (h1 : LLs 0 w' (.slice A (chunks l).length c) (chunks l) vs) (h2 : LLs 0 w' (.slice B (chunks l).length d) (chunks l) us) => samelists_any A B (chunks l).length (chunks l).length c d (chunks l) (chunks l) w' h1.rdl h2.rdl rfl rfl (by omega))
  simp only [decide_true] at CLS
  have H := Lib.hid (And.intro h (And.intro h2 (And.intro hL hm)))
  have hcmx : cap ≤ 140737488355328 ∨ True := .inr trivial
  clear h h2 hL hm hcl hcmx
  have i1 : ¬ (8000 : Int) < (L : Int) := by omega
  have i2 : ¬ (100 : Int) < (m : Int) := by omega
  go_enter Try.func6, Try.ntmps6
  go_wp2_with (first | (go_at_call 20; (with_reducible refine (AW.out _).mono ?_); rintro e w1 ⟨rfl, k1⟩; have K1 := Lib.hid k1; clear k1) |
    (go_at_call 21; (with_reducible refine (CN.out _ K1.out).mono ?_); rintro e w2 ⟨cb, rfl, hP⟩; have P2 := Lib.hid hP; clear hP))
  go_loopw [7, 8, 9] (fun gv rv iv wr => ∃ (k t r c : Nat) (R ga : Option Addr) (gn gc : Nat) (left : Value) (vs : List Value), k ≤ m + 1 ∧ gv = .slice ga gn gc ∧ rv = .slice R r c ∧ iv = .int .i64 k ∧ t + r = L ∧ t + c = cap ∧ RdB w R (l.drop t) ∧ (k = m + 1 → r = 0) ∧ Pc w wr cb left (.slice ga gn gc) vs (l.take t)) (fun _ _ iv _ => m + 1 - (intOf iv).toNat)
  case atStart => exact ⟨0, 0, L, cap, a, none, 0, 0, _, _, by omega, rfl, rfl, rfl, by omega, by omega, H.out.1, by omega, P2.out⟩
  case round =>
    obtain ⟨k, t, r, c, R, ga, gn, gc, left, vs, hk, rfl, rfl, rfl, ht, hc, hrd, hlast, hP⟩ := hrel
    have HP := Lib.hid hP
    have HT := Lib.hid (And.intro H.out.2.2.1 (And.intro ht (And.intro hrd hlast)))
    clear hrd hP
    by_cases hkm : k ≤ m
    · have j1 : (k : Int) ≤ m := by omega
      rcases Nat.lt_or_ge k m with hlt | hge
      · have j2 : (k : Int) < m := by omega
        obtain ⟨b2, o2, rfl, hcc, hb⟩ := H.out.2.1 k (by rw [← H.out.2.2.2]; exact hlt)
        obtain ⟨n, hn, hn1⟩ := PK.out (cuts.getD k 0) (r + 1) hb (by omega) (by omega)
        have CPK := Lib.hid (fun w' => (by have := hn1 w'; rw [Int.natCast_add] at this; exact this : Calls Try.prog 28 #[.int .i64 (cuts.getD k 0), .int .i64 ((r : Int) + 1)] w' fun e w'' => e = .returned (.int .i64 n) ∧ w' = w''))
        have hcc2 := HP.out.k.cell hcc (fun h => h)
        clear hn1 hcc hlast
        generalize cuts.getD k 0 = z at *
        have hnr : n ≤ r := by omega
        have hkn : k + 1 = m + 1 → r - n = 0 := by omega
        · have hqn : ((l.drop t).take n).length = n := by rw [List.length_take, List.length_drop, ← HT.out.1]; omega
          have CP := Lib.hid (pc_push HP.out R n c ((l.drop t).take n) hqn (HT.out.2.2.1.pre n) (by rw [List.length_take]; omega) (by omega) (by omega) (by omega))
          have HN := Lib.hid (HT.out.2.2.1.dropA (t := n) (cap := c) (by rw [List.length_drop, ← HT.out.1]; omega))
          have HTK := Lib.hid (show l.take t ++ (l.drop t).take n = l.take (t + n) from by rw [List.take_add])
          clear hqn
          go_wp2_with (first | (go_at_call 28; (with_reducible refine (CPK.out _).mono ?_); rintro e w' ⟨rfl, rfl⟩) | (go_at_call 26; (with_reducible refine CP.out.mono ?_); rintro e w4 ⟨x, m, xc, la, ln, lc, ga', gn', gc', w5, vs', rfl, hcell, hln, hrun, hP⟩; have HR5 := Lib.hid hrun; have P5 := Lib.hid hP; clear hrun hP) |
            (go_at_call 25; (with_reducible refine (left_cells cb _ _ _ _ hcell).mono ?_); rintro e w' ⟨rfl, rfl⟩) |
            (at_builtin; refine wpList_append_run _ HR5.out rfl rfl rfl rfl ?_))
          go_roundw
          case rel =>
            refine ⟨k + 1, t + n, r - n, c - n, _, ga', gn', gc', .slice la ln lc, vs', by omega, rfl, rfl, by go_num, by omega, by omega, ?_, ?_, ?_⟩
            · have := HN.out; rw [List.drop_drop] at this; exact this
            · omega
            · have := P5.out; rw [HTK.out] at this; exact this
          case measure => simp [intOf]; omega
      · have j2 : ¬ (k : Int) < m := by omega
        clear hlast hge
        · have hqn : ((l.drop t).take r).length = r := by rw [List.length_take, List.length_drop, ← HT.out.1]; omega
          have CP := Lib.hid (pc_push HP.out R r c ((l.drop t).take r) hqn (HT.out.2.2.1.pre r) (by rw [List.length_take]; omega) (by omega) (by omega) (by omega))
          have HN := Lib.hid (HT.out.2.2.1.dropA (t := r) (cap := c) (by rw [List.length_drop, ← HT.out.1]; omega))
          have HTK := Lib.hid (show l.take t ++ (l.drop t).take r = l.take (t + r) from by rw [List.take_add])
          clear hqn
          go_wp2_with (first | (go_at_call 26; (with_reducible refine CP.out.mono ?_); rintro e w4 ⟨x, m, xc, la, ln, lc, ga', gn', gc', w5, vs', rfl, hcell, hln, hrun, hP⟩; have HR5 := Lib.hid hrun; have P5 := Lib.hid hP; clear hrun hP) |
            (go_at_call 25; (with_reducible refine (left_cells cb _ _ _ _ hcell).mono ?_); rintro e w' ⟨rfl, rfl⟩) |
            (at_builtin; refine wpList_append_run _ HR5.out rfl rfl rfl rfl ?_))
          go_roundw
          case rel =>
            refine ⟨k + 1, t + r, 0, c - r, _, ga', gn', gc', .slice la ln lc, vs', by omega, rfl, rfl, by go_num, by omega, by omega, ?_, ?_, ?_⟩
            · have := HN.out; rw [List.drop_drop] at this; exact this
            · omega
            · have := P5.out; rw [HTK.out] at this; exact this
          case measure => simp [intOf]; omega
    · have j1 : ¬ (k : Int) ≤ m := by omega
      have hr0 : r = 0 := hlast (by omega)
      have hP2 := HP.out
      rw [show l.take t = l from List.take_of_length_le (by rw [← H.out.2.2.1]; omega)] at hP2
      obtain ⟨la, lc, e9, _, _⟩ := hP2.lf.form
      obtain ⟨ln, hln⟩ : ∃ ln, ln = (chs [] l).2.length := ⟨_, rfl⟩
      rw [← hln] at e9
      subst e9
      have CE := Lib.hid (pc_end hP2 (by rw [← H.out.2.2.1]; omega))
      generalize chunks l = ls at *
      clear hr0 hP2 hln hlast hkm
      rcases Nat.eq_zero_or_pos ln with h0 | h0
      · subst h0
        go_wp2_with (first | (go_at_call 22; (with_reducible refine CE.out.mono ?_); rintro e w6 ⟨rfl, k6, hz, _⟩; obtain ⟨ga2, gc2, e2, hL6⟩ := hz rfl; cases e2; have K6 := Lib.hid k6; have L6 := Lib.hid hL6; clear k6 hz hL6) | (go_at_call 12; (with_reducible refine (CS.out _ K6.out).mono ?_); rintro e w7 ⟨v7, us7, rfl, hL7, k7⟩; obtain ⟨A7, c7, e7, _, _⟩ := hL7.own.form; subst e7; have K7 := Lib.hid (K6.out.trans k7); have L7 := Lib.hid (hL7.weaken (Nat.zero_le _)); have L67 := Lib.hid (L6.out.kp k7 (fun _ _ h => h) (fun _ _ _ _ h => h)); clear hL7 k7) | (go_at_call 15; (with_reducible refine (CLS.out _ _ _ _ _ _ _ L67.out L7.out).mono ?_); rintro e w8 ⟨rfl, k8⟩; have K8 := Lib.hid (K7.out.trans k8); clear k8))
        go_ret
        exact ⟨rfl, K8.out.below (fun _ _ h => h)⟩
      · have j3 : (0 : Int) < (ln : Int) := by omega
        go_wp2_with (first | (go_at_call 22; (with_reducible refine CE.out.mono ?_); rintro e w5 ⟨rfl, k5, _, hz⟩; obtain ⟨ga2, gc2, w6, hrun, hL6, k6⟩ := hz h0; have HR6 := Lib.hid hrun; have K6 := Lib.hid k6; have L6 := Lib.hid hL6; clear k5 k6 hz hL6 hrun) | (at_builtin; refine wpList_append_run _ HR6.out rfl rfl rfl rfl ?_) | (go_at_call 12; (with_reducible refine (CS.out _ K6.out).mono ?_); rintro e w7 ⟨v7, us7, rfl, hL7, k7⟩; obtain ⟨A7, c7, e7, _, _⟩ := hL7.own.form; subst e7; have K7 := Lib.hid (K6.out.trans k7); have L7 := Lib.hid (hL7.weaken (Nat.zero_le _)); have L67 := Lib.hid (L6.out.kp k7 (fun _ _ h => h) (fun _ _ _ _ h => h)); clear hL7 k7) | (go_at_call 15; (with_reducible refine (CLS.out _ _ _ _ _ _ _ L67.out L7.out).mono ?_); rintro e w8 ⟨rfl, k8⟩; have K8 := Lib.hid (K7.out.trans k8); clear k8))
        go_ret
        exact ⟨rfl, K8.out.below (fun _ _ h => h)⟩
theorem chunkPieces_walk (a0 : Option Addr) (len0 cap0 : Nat) (a1 : Option Addr) (len1 cap1 : Nat) (w : World) (r0 : Rdg Try.prog w 22 [.slice a0 len0 cap0]) (r1 : Rdg Try.prog w 26 [.slice a1 len1 cap1]) :
    Calls Try.prog 6 #[.slice a0 len0 cap0, .slice a1 len1 cap1] w fun e w' => e = .returned (.bool true) ∧ Below w.heap.size w w' := by
  obtain ⟨_, l, _, e0, h, h1, h2⟩ := r0.bytes Try.underlying22 Try.underlying5 (by kernel_rfl) (by kernel_rfl)
  simp only [List.cons.injEq, Value.slice.injEq, and_true] at e0
  obtain ⟨rfl, rfl, rfl⟩ := e0
  obtain ⟨_, cuts, _, e1, h3, h4⟩ := rdi_in r1
  simp only [List.cons.injEq, Value.slice.injEq, and_true] at e1
  obtain ⟨rfl, rfl, rfl⟩ := e1
  have h5 : cap0 ≤ maxLen := by unfold maxLen; omega
  by_cases hl : l.length ≤ 8000 ∧ cuts.length ≤ 100
  · exact pieces_main a0 a1 cap0 cap1 _ _ l cuts rfl rfl w h h3 h1 h5 hl.1 hl.2
  · generalize l.length = n at *
    generalize cuts.length = m at *
    have AW := Lib.hid (fun w' => awake_any w')
    clear r0 r1 h h3
    by_cases hn : 8000 < n
    · have hn : (8000 : Int) < (n : Int) := by omega
      clear hl
      go_enter Try.func6, Try.ntmps6
      go_wp2_with (go_at_call 20; (with_reducible refine (AW.out _).mono ?_); rintro e w1 ⟨rfl, k1⟩; have K1 := Lib.hid k1; clear k1)
      go_ret
      exact ⟨rfl, K1.out.below (fun _ _ h => h)⟩
    · have hn1 : ¬ (8000 : Int) < (n : Int) := by omega
      have hm : (100 : Int) < (m : Int) := by omega
      clear hl
      go_enter Try.func6, Try.ntmps6
      go_wp2_with (go_at_call 20; (with_reducible refine (AW.out _).mono ?_); rintro e w1 ⟨rfl, k1⟩; have K1 := Lib.hid k1; clear k1)
      go_ret
      exact ⟨rfl, K1.out.below (fun _ _ h => h)⟩
end Go.Proofs.Ytlabkldpcbmjbaa
