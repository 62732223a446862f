/- The walk of ChunkCuts: it returns true, whatever comes in. No condition. (Written by wip/chkcuts.py.) -/
import Derived.Test.YtlabkldpcbmjbaaChkG
import Derived.Test.YtlabkldpcbmjbaaLists
import Derived.Test.YtlabkldpcbmjbaaOver
import Derived.Test.YtlabkldpcbmjbaaOpen
namespace Go.Proofs.Ytlabkldpcbmjbaa
open Go.RowKit
set_option linter.unusedVariables false
set_option linter.unusedSimpArgs false
set_option maxHeartbeats 4000000 in
set_option maxRecDepth 20000 in
theorem cuts_main (a : Option Addr) (cap : Nat) (l : List Int) (w : World) (h : RdB w a l) (hcap : l.length ≤ cap) (hcm : cap ≤ maxLen) (hl : l.length ≤ 20000) :
    Calls Try.prog 3 #[.slice a l.length cap] w fun e w' => e = .returned (.bool true) ∧ Below w.heap.size w w' := by
  have AW := Lib.hid (fun w' => awake_any w')
  have CL := Lib.hid (lent_any a cap l w h (by omega))
  have hbd := h.bd
  have CS1 := Lib.hid (fun w' (hg : At w' w.heap.size ((l ++ marks l.length).map (Value.int .u8))) => split_any (some ⟨w.heap.size, 0, none⟩) (l.length + 3) l w' (RdB.lent' hg hbd (by omega)) (by omega) (by omega) (by unfold maxLen; omega))
  have CC1 := Lib.hid (fun w' (hg : At w' w.heap.size ((l ++ marks l.length).map (Value.int .u8))) => cut_any (some ⟨w.heap.size, 0, none⟩) (l.length + 3) l w' (RdB.lent' hg hbd (by omega)) (by omega) (by omega) (by unfold maxLen; omega))
  have CRS := Lib.hid (fun w' (k : Kp (fun _ => False) w w') => rsplit_any a cap l w' (h.kp0 k (fun _ _ h => h)) (by omega) hcap hcm)
  have CRC := Lib.hid (fun w' (k : Kp (fun _ => False) w w') => rcut_any a cap l w' (h.kp0 k (fun _ _ h => h)) (by omega) hcap hcm)
  have hcl := chunks_len l
  have CSL := Lib.hid (fun w' A B c c' (h1 : RdL w' A (chunks l)) (h2 : RdL w' B (chunks l)) => samelists_any A B (chunks l).length (chunks l).length c c' (chunks l) (chunks l) w' h1 h2 rfl rfl (by omega))
  rw [show decide (chunks l = chunks l) = true by simp] at CSL
  have CSI := Lib.hid (fun w' A B c c' (h1 : Rd w' A (ints (lens (chunks l)))) (h2 : Rd w' B (ints (lens (chunks l)))) => sameints_eq A B c c' (lens (chunks l)) w' h1 h2 (by rw [lens_len]; omega))
  rw [lens_len] at CSI
  have HR := Lib.hid (And.intro h (And.intro hcap hcm))
  generalize hls : chunks l = ls at *
  generalize hN : ls.length = N at *
  obtain ⟨n, hn⟩ : ∃ n, n = l.length := ⟨_, rfl⟩
  have CK0 := Lib.hid (fun w' hg (h' : RdB w' a l) => kept_any w.heap.size a cap l w' hg h' (by omega))
  have CS20 := Lib.hid (fun w' (h' : RdB w' a l) => split_any a cap l w' h' (by omega) hcap hcm)
  rw [hls] at CS20
  rw [← hn] at CL CS1 CC1 CRS CRC CK0 CS20 hl hcap hcl ⊢
  have HN := Lib.hid (And.intro hN (And.intro hn hls))
  clear hN hn h hbd hls
  have i1 : ¬ (20000 : Int) < (n : Int) := by omega
  go_enter Try.func3, Try.ntmps3
  go_upto_region 7 with (first | (go_at_call 11; (with_reducible refine CL.out.mono ?_); rintro e w1 ⟨rfl, hg1, k1⟩; have H1 := Lib.hid (And.intro hg1 k1); clear hg1 k1) | (go_at_call 12; (with_reducible refine (CS1.out _ H1.out.1).mono ?_); rintro e w2 ⟨v2, vs2, rfl, hl2, k2⟩; obtain ⟨A2, c2, e2, _, _⟩ := hl2.own.form; rw [HN.out.1] at e2; subst e2; have H2 := Lib.hid (And.intro hl2 k2); clear hl2 k2) | (go_at_call 13; (with_reducible refine (CC1.out _ (H2.out.2.at H1.out.1 (fun h => h))).mono ?_); rintro e w3 ⟨v3, rfl, ho3, hg3, k3⟩; obtain ⟨A3, c3, rfl, _, _⟩ := ho3.form; have H3 := Lib.hid (And.intro ho3 k3); clear ho3 hg3 k3) | (go_at_call 14; (with_reducible refine (CRS.out _ ((H1.out.2.trans H2.out.2).trans H3.out.2)).mono ?_); rintro e w4 ⟨v4, vs4, rfl, hl4, k4⟩; obtain ⟨A4, c4, e4, _, _⟩ := hl4.own.form; rw [HN.out.1] at e4; subst e4; have H4 := Lib.hid (And.intro hl4 k4); clear hl4 k4) | (go_at_call 15; (with_reducible refine (CSL.out _ _ _ _ _ ?_ ?_).mono ?_); exact (H2.out.1.rdl.kp0 (H3.out.2.trans H4.out.2) (fun _ _ h => h)); exact H4.out.1.rdl; rintro e w5 ⟨rfl, k5⟩; have H5 := Lib.hid (((H1.out.2.trans H2.out.2).trans H3.out.2).trans (H4.out.2.trans k5)); have K5 := Lib.hid k5; clear k5) | (go_at_call 17; (with_reducible refine (CRC.out _ H5.out).mono ?_); rintro e w6 ⟨v6, rfl, ho6, hg6, k6⟩; obtain ⟨A6, c6, rfl, _, _⟩ := ho6.form; have H6 := Lib.hid (And.intro ho6 k6); clear ho6 hg6 k6) | (go_at_call 16; (with_reducible refine (CSI.out _ _ _ _ _ ?_ ?_).mono ?_); exact (H3.out.1.kp ((H4.out.2.trans K5.out).trans H6.out.2) (fun _ _ h => h)).rd; exact H6.out.1.rd; rintro e w7 ⟨rfl, q7, rfl⟩))
  have hll7 := Lib.hid (H2.out.1.kp ((((H3.out.2.trans H4.out.2).trans K5.out).trans H6.out.2).drewN q7) (fun _ _ h => h) (fun _ _ _ _ h => h))
  have hlw7 := Lib.hid (H4.out.1.kp ((K5.out.trans H6.out.2).drewN q7) (fun _ _ h => h) (fun _ _ _ _ h => h))
  have k07 := Lib.hid ((H5.out.trans H6.out.2).drewN q7)
  have hin7 := Lib.hid (((((H2.out.2.trans H3.out.2).trans H4.out.2).trans (K5.out.trans H6.out.2)).drewN q7).at H1.out.1 (fun h => h))
  have hE2 := Lib.hid (fun i g (hi : i < ls.length) (hg : (vs2.getD i undef).ownBlock = some g) => (⟨H2.out.1.geE i g hi hg, H2.out.1.ltE hi hg⟩ : w1.heap.size ≤ g ∧ g < w2.heap.size))
  have hB := Lib.hid (show w.heap.size < w1.heap.size ∧ w2.heap.size ≤ w3.heap.size from ⟨H1.out.1.lt, H3.out.2.size⟩)
  generalize w6.drewN q7 = w7 at *
  clear H2 H3 H4 H5 K5 H6 CS1 CC1 CRS CRC CSI CL
  go_wp2_with fail
  go_loopw [8] (fun i wr => ∃ k : Nat, k ≤ N ∧ i = .int .i64 k ∧ Kp (fun i => ∃ j, j < k ∧ (vs2.getD j undef).ownBlock = some i) w7 wr) (fun i _ => N - (intOf i).toNat)
  case atStart => exact ⟨0, by omega, rfl, Kp.refl _ _⟩
  case round =>
    obtain ⟨k, hk, rfl, hkp⟩ := hrel
    by_cases hlt : k < N
    · have hkl : k < ls.length := by rw [HN.out.1]; exact hlt
      have j1 : (k : Int) < N := by omega
      have hvl := hll7.out.len
      have how := hll7.out.own
      rw [HN.out.1] at how
      obtain ⟨b, off, rfl, hc⟩ := how.rd k (show k < vs2.length by omega)
      obtain ⟨ai, ci, e, _, _⟩ := (hll7.out.each k hkl).form
      have ho : OwnB wr (vs2.getD k undef) (ls.getD k []) := (hll7.out.each k hkl).kp hkp (fun g hg ⟨j, hj, hjg⟩ => hll7.out.dis j k g hj hkl hjg hg)
      have hc2 : wr.cell? ⟨b, off + k, none⟩ = some (vs2.getD k undef) := hkp.cell hc (fun ⟨j, hj, hjg⟩ => by
        have hav : (Value.slice (some ⟨b, off, none⟩) N c2).ownBlock = some b := rfl
        exact hll7.out.apart hav (by omega) (hll7.out.each j (by omega)) hjg)
      rw [e] at hc2 ho
      have CO := Lib.hid (over_own ho)
      have HK := Lib.hid hkp
      have HEE := Lib.hid e
      clear hkp ho how hc
      generalize (ls.getD k []).length = mk at *
      go_wp2_with (go_at_call 18; (with_reducible refine CO.out.mono ?_); rintro e w9 ⟨rfl, k9⟩; have K9 := Lib.hid k9; clear k9)
      go_roundw
      case rel => exact ⟨k + 1, by omega, by go_num, (HK.out.mono (fun i _ ⟨j, hj, h⟩ => ⟨j, by omega, h⟩)).then K9.out (fun i _ h => ⟨k, by omega, by rw [HEE.out]; exact h⟩)⟩
      case measure => simp [intOf]; omega
    · obtain rfl : k = N := by omega
      have hS : ∀ i, (∃ j, j < k ∧ (vs2.getD j undef).ownBlock = some i) → w1.heap.size ≤ i ∧ i < w2.heap.size := fun i ⟨j, hj, h⟩ => hE2.out j i (by rw [HN.out.1]; exact hj) h
      have hb := hB.out
      have kT : Kp (fun _ => False) w wr := k07.out.then hkp (fun i hi h => by have := hS i h; omega)
      have hin8 := hkp.at hin7.out (fun h => by have := hS _ h; omega)
      have hR8 : RdB wr a l := HR.out.1.kp0 kT (fun _ _ h => h)
      have CK := Lib.hid (CK0.out wr hin8 hR8)
      have CS2 := Lib.hid (fun w' (k' : Kp (fun _ => False) wr w') => CS20.out w' (hR8.kp0 k' (fun _ _ h => h)))
      have HW := Lib.hid (hlw7.out.kp hkp (fun g hg h => by have := hS _ h; have := hlw7.out.ge g hg; omega) (fun i g hi hg h => by have := hS _ h; have := hlw7.out.geE i g hi hg; omega))
      have KT := Lib.hid kT
      clear kT hin8 hR8 hkp
      go_wp2_with (first | (go_at_call 19; (with_reducible refine CK.out.mono ?_); rintro e w9 ⟨rfl, k9⟩; have H9 := Lib.hid k9; clear k9) | (go_at_call 12; (with_reducible refine (CS2.out _ H9.out).mono ?_); rintro e w10 ⟨v10, vs10, rfl, hl10, k10⟩; obtain ⟨A10, c10, e10, _, _⟩ := hl10.own.form; rw [HN.out.1] at e10; subst e10; have H10 := Lib.hid (And.intro hl10 (H9.out.trans k10)); clear hl10 k10) | (go_at_call 15; (with_reducible refine (CSL.out _ _ _ _ _ ?_ ?_).mono ?_); exact H10.out.1.rdl; exact (HW.out.rdl.kp0 H10.out.2 (fun _ _ h => h)); rintro e w11 ⟨rfl, k11⟩; have H11 := Lib.hid (H10.out.2.trans k11); clear k11) | (go_at_call 20; (with_reducible refine (AW.out _).mono ?_); rintro e w12 ⟨rfl, k12⟩; have H12 := Lib.hid (H11.out.trans k12); clear k12))
      go_ret
      exact ⟨rfl, (KT.out.trans H12.out).below (fun _ _ h => h)⟩
theorem chunkCuts_walk (a0 : Option Addr) (len0 cap0 : Nat) (w : World) (r0 : Rdg Try.prog w 22 [.slice a0 len0 cap0]) :
    Calls Try.prog 3 #[.slice a0 len0 cap0] w fun e w' => e = .returned (.bool true) ∧ Below w.heap.size w w' := by
  obtain ⟨_, l, _, e0, h, h1, h2⟩ := r0.bytes Try.underlying22 Try.underlying5 (by kernel_rfl) (by kernel_rfl)
  simp only [List.cons.injEq, Value.slice.injEq, and_true] at e0
  obtain ⟨rfl, rfl, rfl⟩ := e0
  have h3 : cap0 ≤ maxLen := by unfold maxLen; omega
  by_cases hl : l.length ≤ 20000
  · exact cuts_main a0 cap0 l w h h1 h3 hl
  · generalize l.length = n at *
    have hn : (20000 : Int) < (n : Int) := by omega
    clear r0 h
    go_enter Try.func3, Try.ntmps3
    go_wp2
    go_ret
    exact ⟨rfl, Below.refl _ _⟩
end Go.Proofs.Ytlabkldpcbmjbaa
