/- The walk of ChunkWhole: it returns true, whatever comes in. No condition. (Written by wip/chkwhole.py.) -/
import Derived.Test.YtlabkldpcbmjbaaChkH
import Derived.Test.YtlabkldpcbmjbaaChunkKnown
import Derived.Test.YtlabkldpcbmjbaaOpen
namespace Go.Proofs.Ytlabkldpcbmjbaa
open Go.RowKit
set_option linter.unusedVariables false
set_option linter.unusedSimpArgs false
set_option maxHeartbeats 4000000 in
set_option maxRecDepth 20000 in
theorem whole_main (a : Option Addr) (cap : Nat) (l : List Int) (w : World) (h : RdB w a l) (hcap : l.length ≤ cap) (hcm : cap ≤ maxLen) (hl : l.length ≤ 10000) :
    Calls Try.prog 10 #[.slice a l.length cap] w fun e w' => e = .returned (.bool true) ∧ Below w.heap.size w w' := by
  have AW := Lib.hid (fun w' => awake_any w')
  have hcl := chunks_len l
  have CS := Lib.hid (fun w' (k : Kp (fun _ => False) w w') => split_any a cap l w' (h.kp0 k (fun _ _ h => h)) (by omega) hcap hcm)
  have hjn := chunks_join l
  have HLW := Lib.hid (chunk_law l)
  generalize chunks l = ls at *
  obtain ⟨N, hN⟩ : ∃ N, N = ls.length := ⟨_, rfl⟩
  have CT := Lib.hid (fun w' A c (h : RdL w' A ls) => together_any A N c ls w' h hN.symm (by rw [hjn]; omega) (by omega))
  rw [hjn] at CT
  have CSB := Lib.hid (fun w' A c (h1 : RdB w' A l) (h2 : RdB w' a l) => same_any A a c cap l l w' h1 h2)
  rw [show decide (l = l) = true by simp] at CSB
  obtain ⟨n, hn⟩ : ∃ n, n = l.length := ⟨_, rfl⟩
  have HR := Lib.hid h
  rw [← hn] at CS CSB hl hcap hcl ⊢
  rw [← hN] at hcl HLW
  have HN := Lib.hid (And.intro hN.symm hn.symm)
  clear hN hn h hjn
  have i1 : ¬ (10000 : Int) < (n : Int) := by omega
  go_enter Try.func10, Try.ntmps10
  go_upto_region 7 with (first | (go_at_call 20; (with_reducible refine (AW.out _).mono ?_); rintro e w1 ⟨rfl, k1⟩; have K1 := Lib.hid k1; clear k1) | (go_at_call 12; (with_reducible refine (CS.out _ K1.out).mono ?_); rintro e w2 ⟨v2, vs2, rfl, hl2, k2⟩; obtain ⟨A2, c2, e2, _, _⟩ := hl2.own.form; rw [HN.out.1] at e2; subst e2; have H2 := Lib.hid (And.intro hl2 (K1.out.trans k2)); clear hl2 k2) | (go_at_call 31; (with_reducible refine (CT.out _ _ _ H2.out.1.rdl).mono ?_); rintro e w3 ⟨v3, rfl, ho3, _, k3⟩; obtain ⟨A3, c3, e3, _, _⟩ := ho3.form; rw [HN.out.2] at e3; subst e3; have H3 := Lib.hid (And.intro ho3 (And.intro (H2.out.2.trans k3) k3)); clear ho3 k3) | (go_at_call 24; (with_reducible refine (CSB.out _ _ _ ?_ ?_).mono ?_); exact H3.out.1.rdb; exact (HR.out.kp0 H3.out.2.1 (fun _ _ h => h)); rintro e w' ⟨rfl, rfl⟩))
  go_wp2_with fail
  go_loopw [5] (fun i wr => ∃ k : Nat, k ≤ N ∧ i = .int .i64 k ∧ w3 = wr) (fun i _ => N - (intOf i).toNat)
  case atStart => exact ⟨0, by omega, rfl, rfl⟩
  case round =>
    obtain ⟨k, hk, rfl, rfl⟩ := hrel
    by_cases hlt : k < N
    · have j1 : (k : Int) < N := by omega
      obtain ⟨c1', c2', c3', c4'⟩ := HLW.out k hlt
      obtain ⟨b, o, ai, ci, rfl, hc, hr, hci⟩ := H2.out.1.rdl k (by rw [HN.out.1]; exact hlt)
      have hc3 := H3.out.2.2.cell hc (fun h => h)
      have hr3 := Lib.hid (hr.kp0 H3.out.2.2 (fun _ _ h => h))
      generalize ls.getD k [] = x at *
      obtain ⟨b', o', rfl, _⟩ := hr3.out.cell 0 (by omega)
      obtain ⟨m, hm⟩ : ∃ m, m = x.length := ⟨_, rfl⟩
      rw [← hm] at c1' c2' c3' c4' hc3 hci
      have HX := Lib.hid (And.intro hm (And.intro c3' c4'))
      clear hm c4' hc hr
      have j0 : (N : Int) ≤ 10001 := by omega
      have e1 : ¬ ((m : Int) < 1) := by omega
      have e2 : ¬ ((1024 : Int) < (m : Int)) := by omega
      by_cases hkN : k + 1 < N
      · obtain ⟨d1, d2⟩ := c3' hkN
        have e3 : (k : Int) < (N : Int) - 1 := by omega
        have e4 : ¬ ((m : Int) < 64) := by omega
        clear c3'
        go_wp2_with fail
        go_loopw [7] (fun i wr => ∃ q : Nat, 48 ≤ q ∧ i = .int .i64 ((q : Int) + 16) ∧ (q + 16 ≤ m + 1 ∨ q = 48) ∧ w3 = wr) (fun i _ => m + 65 - (intOf i).toNat)
        case atStart => exact ⟨48, by omega, rfl, .inr rfl, rfl⟩
        case round =>
          obtain ⟨q, hq48, rfl, hqm, rfl⟩ := hrel
          by_cases hqm2 : q + 16 ≤ m
          · have f1 : (q : Int) + 16 ≤ (m : Int) := by omega
            obtain ⟨S, hS0, hS1, hS2⟩ := facts x m q k N HX.out.1 hq48 hqm2 HX.out.2.1 HX.out.2.2
            have CSU := Lib.hid (facts_sum x m q ci b' o' w3 S HX.out.1 hqm2 hS0 hr3.out)
            clear hS0
            have HS1 := Lib.hid hS1
            have HS2 := Lib.hid hS2
            clear hS1 hS2
            have f2 : (q : Int) ≤ 1024 := by omega
            obtain ⟨f3, f4, f5⟩ := int3 hqm2 hci
            by_cases hlt2 : q + 16 < m
            · have g1 := HS1.out hlt2
              have g2 : ((q : Int) + 16 == (m : Int)) = false := by simp; omega
              have g3 : (q : Int) + 16 < (m : Int) := by omega
              clear HS1 HS2
              go_wp2_with (go_at_call 32; (with_reducible refine CSU.out.mono ?_); rintro e w' ⟨rfl, rfl⟩)
              go_roundw
              case rel => exact ⟨q + 1, by omega, by go_num, by omega, by first | rfl | trivial⟩
              case measure => simp [intOf]; omega
            · have g2 : ((q : Int) + 16 == (m : Int)) = true := by simp; omega
              have g3 : ¬ ((q : Int) + 16 < (m : Int)) := by omega
              cases hS : (S / 16777216 == 0)
              · have g4 : ¬ ((m : Int) < 1024) := fun h => by
                  have := HS2.out (by omega) hkN (by omega)
                  rw [hS] at this; cases this
                clear HS1 HS2
                go_wp2_with (go_at_call 32; (with_reducible refine CSU.out.mono ?_); rintro e w' ⟨rfl, rfl⟩)
                go_roundw
                case rel => exact ⟨q + 1, by omega, by go_num, by omega, by first | rfl | trivial⟩
                case measure => simp [intOf]; omega
              · clear HS1 HS2
                go_wp2_with (go_at_call 32; (with_reducible refine CSU.out.mono ?_); rintro e w' ⟨rfl, rfl⟩)
                go_roundw
                case rel => exact ⟨q + 1, by omega, by go_num, by omega, by first | rfl | trivial⟩
                case measure => simp [intOf]; omega
          · have f1 : ¬ ((q : Int) + 16 ≤ (m : Int)) := by omega
            go_wp2
            go_roundw
            case rel => exact ⟨k + 1, by omega, by go_num, by first | rfl | trivial⟩
            case measure => simp [intOf]; omega
      · have e3 : ¬ ((k : Int) < (N : Int) - 1) := by omega
        clear c3'
        go_wp2_with fail
        go_loopw [7] (fun i wr => ∃ q : Nat, 48 ≤ q ∧ i = .int .i64 ((q : Int) + 16) ∧ (q + 16 ≤ m + 1 ∨ q = 48) ∧ w3 = wr) (fun i _ => m + 65 - (intOf i).toNat)
        case atStart => exact ⟨48, by omega, rfl, .inr rfl, rfl⟩
        case round =>
          obtain ⟨q, hq48, rfl, hqm, rfl⟩ := hrel
          by_cases hqm2 : q + 16 ≤ m
          · have f1 : (q : Int) + 16 ≤ (m : Int) := by omega
            obtain ⟨S, hS0, hS1, hS2⟩ := facts x m q k N HX.out.1 hq48 hqm2 HX.out.2.1 HX.out.2.2
            have CSU := Lib.hid (facts_sum x m q ci b' o' w3 S HX.out.1 hqm2 hS0 hr3.out)
            clear hS0
            have HS1 := Lib.hid hS1
            have HS2 := Lib.hid hS2
            clear hS1 hS2
            have f2 : (q : Int) ≤ 1024 := by omega
            obtain ⟨f3, f4, f5⟩ := int3 hqm2 hci
            by_cases hlt2 : q + 16 < m
            · have g1 := HS1.out hlt2
              have g2 : ((q : Int) + 16 == (m : Int)) = false := by simp; omega
              have g3 : (q : Int) + 16 < (m : Int) := by omega
              clear HS1 HS2
              go_wp2_with (go_at_call 32; (with_reducible refine CSU.out.mono ?_); rintro e w' ⟨rfl, rfl⟩)
              go_roundw
              case rel => exact ⟨q + 1, by omega, by go_num, by omega, by first | rfl | trivial⟩
              case measure => simp [intOf]; omega
            · have g2 : ((q : Int) + 16 == (m : Int)) = true := by simp; omega
              have g3 : ¬ ((q : Int) + 16 < (m : Int)) := by omega
              cases hS : (S / 16777216 == 0)
              · skip
                clear HS1 HS2
                go_wp2_with (go_at_call 32; (with_reducible refine CSU.out.mono ?_); rintro e w' ⟨rfl, rfl⟩)
                go_roundw
                case rel => exact ⟨q + 1, by omega, by go_num, by omega, by first | rfl | trivial⟩
                case measure => simp [intOf]; omega
              · clear HS1 HS2
                go_wp2_with (go_at_call 32; (with_reducible refine CSU.out.mono ?_); rintro e w' ⟨rfl, rfl⟩)
                go_roundw
                case rel => exact ⟨q + 1, by omega, by go_num, by omega, by first | rfl | trivial⟩
                case measure => simp [intOf]; omega
          · have f1 : ¬ ((q : Int) + 16 ≤ (m : Int)) := by omega
            go_wp2
            go_roundw
            case rel => exact ⟨k + 1, by omega, by go_num, by first | rfl | trivial⟩
            case measure => simp [intOf]; omega
    · obtain rfl : k = N := by omega
      go_wp2
      go_ret
      exact ⟨rfl, H3.out.2.1.below (fun _ _ h => h)⟩
theorem chunkWhole_walk (a0 : Option Addr) (len0 cap0 : Nat) (w : World) (r0 : Rdg Try.prog w 22 [.slice a0 len0 cap0]) :
    Calls Try.prog 10 #[.slice a0 len0 cap0] w fun e w' => e = .returned (.bool true) ∧ Below w.heap.size w w' := by
  obtain ⟨_, l, _, e0, h, h1, h2⟩ := r0.bytes Try.underlying22 Try.underlying5 (by kernel_rfl) (by kernel_rfl)
  simp only [List.cons.injEq, Value.slice.injEq, and_true] at e0
  obtain ⟨rfl, rfl, rfl⟩ := e0
  have h3 : cap0 ≤ maxLen := by unfold maxLen; omega
  by_cases hl : l.length ≤ 10000
  · exact whole_main a0 cap0 l w h h1 h3 hl
  · generalize l.length = n at *
    have hn : (10000 : Int) < (n : Int) := by omega
    clear r0 h
    have AW := Lib.hid (fun w' => awake_any w')
    go_enter Try.func10, Try.ntmps10
    go_wp2_with (go_at_call 20; (with_reducible refine (AW.out _).mono ?_); rintro e w1 ⟨rfl, k1⟩; have K1 := Lib.hid k1; clear k1)
    go_ret
    exact ⟨rfl, K1.out.below (fun _ _ h => h)⟩
end Go.Proofs.Ytlabkldpcbmjbaa
