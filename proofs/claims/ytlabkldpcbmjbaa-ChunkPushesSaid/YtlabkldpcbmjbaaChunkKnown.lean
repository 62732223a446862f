/- The walk of ChunkKnown: it returns true. No condition. (Written by wip/chkzgen.py.) -/
import Derived.Test.YtlabkldpcbmjbaaChkY
namespace Go.Proofs.Ytlabkldpcbmjbaa
open Go.RowKit
set_option linter.unusedVariables false
set_option linter.unusedSimpArgs false
theorem chunks_le (l : List Int) : ∀ x ∈ chunks l, x.length ≤ 1024 := fun x hx => by
  unfold chunks at hx
  rcases List.mem_append.1 hx with h | h
  · have := (chs_each l [] Open.nil x h).2.1.lt
    rw [List.length_take] at this
    omega
  · split at h
    · simp at h
    · simp at h; subst h
      have := (chs_open l [] Open.nil).lt; omega
theorem flat_le : ∀ (ls : List (List Int)) (m : Nat), (∀ x ∈ ls, x.length ≤ m) → ls.flatten.length ≤ m * ls.length
  | [], m, _ => by simp
  | x :: r, m, h => by
    have h1 := h x (by simp)
    have h2 := flat_le r m (fun y hy => h y (by simp [hy]))
    rw [List.flatten_cons, List.length_append, List.length_cons, Nat.mul_add]
    omega
theorem chunks_count (l : List Int) : l.length ≤ 1024 * (chunks l).length := by
  have := flat_le (chunks l) 1024 (chunks_le l)
  rwa [chunks_join] at this
set_option maxHeartbeats 4000000 in
set_option maxRecDepth 20000 in
theorem chunkKnown_walk (w : World) : Calls Try.prog 9 #[] w fun e w' => e = .returned (.bool true) ∧ Below w.heap.size w w' := by
  have CM := Lib.hid (fun w' b (h : At w' b (zeros (.int .u8 0) 3000)) => cut_any (some ⟨b, 0, none⟩) 3000 (List.replicate 3000 0) w' (zeros_rdb h (by omega)) (by simp) (by simp) (by unfold maxLen; omega))
  have hN := chunks_count (List.replicate 3000 0)
  have hN2 := chunks_len (List.replicate 3000 0)
  have CN := Lib.hid (fun w' => split_any none 0 [] w' (RdB.nil _ _) (by simp) (by simp) (by simp))
  rw [chunks_nil] at CN
  rw [List.length_replicate] at CM hN hN2
  generalize chunks (List.replicate 3000 0) = ls at *
  generalize hNN : ls.length = N at *
  clear hNN
  have i3 : (3 : Int) ≤ (N : Int) := by omega
  clear hN
  simp only [List.length_nil, List.length_cons, Nat.zero_add] at CN
  go_enter Try.func9, Try.ntmps9
  go_upto_region 4 with (go_at_call 21; (with_reducible refine (new_cut _).mono ?_); rintro e w1 ⟨cb, rfl, hcb, hed, k1⟩; have H1 := Lib.hid (And.intro hcb (And.intro hed k1)); clear hcb hed k1)
  have CE := Lib.hid (end_cut cb [] (.slice none 0 0) w1 H1.out.2.1)
  go_upto_region 5 with (go_at_call 22; (with_reducible refine CE.out.mono ?_); rintro e w2 ⟨rfl, he2, k2⟩; have H2 := Lib.hid (And.intro he2 k2); clear he2 k2)
  clear CE
  have CP := Lib.hid (fun w' a n cap (k : Kp (fun _ => False) w2 w') => push_no (some ⟨cb, 0, none⟩) a n cap 9 (.inr rfl) w' (fun w'' k' => out_at cb [] (.slice none 0 0) true true w'' (H2.out.1.kp (k.trans k') (fun h => h))))
  have CE2 := Lib.hid (fun w' (k : Kp (fun _ => False) w2 w') => end_no (some ⟨cb, 0, none⟩) 9 (.inr rfl) w' (out_at cb [] (.slice none 0 0) true true w' (H2.out.1.kp k (fun h => h))))
  have CL := Lib.hid (fun w' (k : Kp (fun _ => False) w2 w') => left_cells cb none 0 0 w' (edge_tail (H2.out.1.kp k (fun h => h)) 0).1)
  have AW := Lib.hid (fun w' => awake_any w')
  go_upto_region 6 with (go_at_call 26; (with_reducible refine (CP.out _ _ _ _ ?_).mono ?_); exact (Kp.refl _ _).alloc _; rintro e w3 ⟨rfl, k3⟩; have K3 := Lib.hid (((Kp.refl (fun _ => False) w2).alloc _).trans k3); clear k3)
  go_upto_region 7 with (go_at_call 22; (with_reducible refine (CE2.out _ K3.out).mono ?_); rintro e w' ⟨rfl, rfl⟩)
  obtain ⟨w4, hr4, hat4, k4⟩ := run_make_at (P := Try.prog) w3 Try.underlying22 elem_u8 .i64 .i64 3000 3000 3000 (by omega) (by omega) (by omega) (by unfold maxLen; omega)
  have H4 := Lib.hid (And.intro hat4 (K3.out.trans k4))
  clear hat4 k4
  go_upto_region 8 with (go_at_call 13; (with_reducible refine (CM.out _ _ H4.out.1).mono ?_); rintro e w5 ⟨v5, rfl, ho5, _, k5⟩; obtain ⟨A5, c5, rfl, _, _⟩ := ho5.form; have H5 := Lib.hid (H4.out.2.trans k5); clear ho5 k5)
  go_wp2_with (first | (go_at_call 20; (with_reducible refine (AW.out _).mono ?_); rintro e w6 ⟨rfl, k6⟩; have H6 := Lib.hid (H5.out.trans k6); clear k6) | (go_at_call 25; (with_reducible refine (CL.out _ H6.out).mono ?_); rintro e w' ⟨rfl, rfl⟩) | (go_at_call 12; (with_reducible refine (CN.out _).mono ?_); rintro e w7 ⟨v7, vs7, rfl, hl7, k7⟩; obtain ⟨A7, c7, rfl, _, _⟩ := hl7.own.form; have H7 := Lib.hid (H6.out.trans k7); clear hl7 k7))
  go_ret
  exact ⟨rfl, (H1.out.2.2.then (H2.out.2.then H7.out (fun _ _ h => h.elim)) (fun i hi h => by have := H1.out.1; omega)).below (fun _ _ h => h)⟩
end Go.Proofs.Ytlabkldpcbmjbaa
