/- FrameKnown. -/
import Derived.Test.YtjjoancnkjlaeaaFrmU
import Derived.Test.YtjjoancnkjlaeaaOpen
namespace Go.Proofs.Ytjjoancnkjlaeaa
open Go.RowKit
set_option linter.unusedVariables false
set_option linter.unusedSimpArgs false
def z26 : List Int := List.replicate 1426 0
theorem z26_ck : ck z26 ≠ 0 := by
  have h : ok4 z26 = false := by decide +kernel
  unfold ck; rw [h]; decide
theorem byt_z26 : Byt z26 := by intro x hx; have := List.eq_of_mem_replicate hx; omega
theorem z26_len : z26.length = 1426 := List.length_replicate ..
theorem known_frames : errF ⟨6, 0, 0, 0, 0, []⟩ = 213 ∧ errF ⟨1, 0, 0, 0, 0, []⟩ = 2 ∧ errF ⟨3, 1, 1, 0, 0, []⟩ = 2 := by decide
set_option maxHeartbeats 1000000 in
set_option maxRecDepth 20000 in
theorem frameKnown_walk (w : World) :
    Calls Try.prog 9 #[] w fun e w' => e = .returned (.bool true) ∧ Below w.heap.size w w' := by
  have CP := Lib.hid (fun (w' : World) => fput_ok synF none 0 w' synF_I (RdB.nil _ _) (Nat.le_refl _) synF_ok)
  have CY := Lib.hid (fun w' => syn_any w')
  have CS := Lib.hid (fun (a : Option Addr) (cap : Nat) (w' : World) => fread_short a cap (List.replicate 25 0) w' (by simp))
  rw [show (List.replicate 25 (0 : Int)).length = 25 by simp] at CS
  have CG := Lib.hid (fun (a : Option Addr) (cap : Nat) (w' : World) => fread_long a cap (List.replicate 1427 0) w' (by rw [List.length_replicate]; omega) (by rw [List.length_replicate]; omega))
  rw [show (List.replicate 1427 (0 : Int)).length = 1427 from List.length_replicate ..] at CG
  have CZ := Lib.hid (fun (a : Option Addr) (w' : World) h => fread_sum a 1426 z26 w' h (by rw [z26_len]; omega) (by unfold maxLen; omega) (by rw [z26_len]; omega) (by rw [z26_len]; omega) z26_ck)
  rw [z26_len] at CZ
  have C6 := Lib.hid (fun w' => fcheck_any ⟨6, 0, 0, 0, 0, []⟩ none 0 w' (by simp) (by simp) (by simp) (by simp) (by simp))
  have C1 := Lib.hid (fun w' => fcheck_any ⟨1, 0, 0, 0, 0, []⟩ none 0 w' (by simp) (by simp) (by simp) (by simp) (by simp))
  have C3 := Lib.hid (fun w' => fcheck_any ⟨3, 1, 1, 0, 0, []⟩ none 0 w' (by simp) (by simp) (by simp) (by simp) (by simp))
  rw [known_frames.1] at C6
  rw [known_frames.2.1] at C1
  rw [known_frames.2.2] at C3
  rw [show frA ⟨6, 0, 0, 0, 0, []⟩ none 0 = #[.int .i64 6, .int .i64 0, .int .i64 0, .int .i64 0, .int .i64 0, .slice none 0 0] from rfl] at C6
  rw [show frA ⟨1, 0, 0, 0, 0, []⟩ none 0 = #[.int .i64 1, .int .i64 0, .int .i64 0, .int .i64 0, .int .i64 0, .slice none 0 0] from rfl] at C1
  rw [show frA ⟨3, 1, 1, 0, 0, []⟩ none 0 = #[.int .i64 3, .int .i64 1, .int .i64 1, .int .i64 0, .int .i64 0, .slice none 0 0] from rfl] at C3
  have AW := Lib.hid (fun w' => awake_any w')
  go_enter Try.func9, Try.ntmps9
  go_upto_region 4 with (first | (go_at_call 26; refine (CY.out _).mono ?_; rintro e w1 ⟨rfl, k1⟩) | (go_at_call 11; refine (CP.out _).mono ?_; rintro e w2 ⟨v, rfl, hv, hg, k2⟩; obtain ⟨a, c, rfl, hr, hc, hcm⟩ := hv.form2; rw [show (layF synF).length = 26 from layF_len synF] at hc hv ⊢; obtain ⟨b, off, rfl, _⟩ := hr.cell 0 (by rw [layF_len]; omega); have K2 := Lib.hid (k1.trans k2); clear hv hg hr k1 k2 hcm))
  have c25 : 25 ≤ c := by omega
  have z25 : (25 : Int) ≤ (c : Int) := by omega
  go_upto_region 5 with (go_at_call 19; refine (CS.out _ _ _).mono ?_; rintro e w3 ⟨rfl, k3⟩; have K3 := Lib.hid (K2.out.trans k3); clear k3 K2; rw [show frA zF none 0 = #[.int .i64 0, .int .i64 0, .int .i64 0, .int .i64 0, .int .i64 0, .slice none 0 0] from rfl])
  refine wp_world (fun wx => Kp (fun _ => False) w wx) (K3.out.alloc _) ?_
  clear K3 CS CP CY c25 z25
  rintro w4 k4
  obtain ⟨w5, hr5, _, k5⟩ := run_make_at (P := Try.prog) w4 Try.underlying22 elem_u8 .i64 .i64 1427 1427 1427 (by omega) (by omega) (by omega) (by unfold maxLen; omega)
  have K5 := Lib.hid (k4.trans k5)
  clear k4 k5
  go_upto_region 6 with (go_at_call 19; refine (CG.out _ _ _).mono ?_; rintro e w6 ⟨rfl, k6⟩; have K6 := Lib.hid (K5.out.trans k6); clear k6 K5 hr5; rw [show frA zF none 0 = #[.int .i64 0, .int .i64 0, .int .i64 0, .int .i64 0, .int .i64 0, .slice none 0 0] from rfl])
  refine wp_world (fun wx => Kp (fun _ => False) w wx) (K6.out.alloc _) ?_
  clear K6 CG
  rintro w7 k7
  obtain ⟨w8, hr8, hat8, k8⟩ := run_make_at (P := Try.prog) w7 Try.underlying22 elem_u8 .i64 .i64 1426 1426 1426 (by omega) (by omega) (by omega) (by unfold maxLen; omega)
  have HR8 : Hid (RdB w8 (some ⟨w7.heap.size, 0, none⟩) z26) := RdB.of_at (pre := []) (post := []) (by rw [zeros_one _ rfl] at hat8; rw [List.nil_append, List.append_nil, show z26.map (Value.int .u8) = List.replicate 1426 (.int .u8 0) from List.map_replicate]; exact hat8) byt_z26 (by rw [z26_len]; omega)
  have K8 := Lib.hid (k7.trans k8)
  clear k7 k8 hat8
  go_upto_region 7 with (go_at_call 19; refine (CZ.out _ _ HR8.out).mono ?_; rintro e w9 ⟨rfl, k9⟩; have K9 := Lib.hid (K8.out.trans k9); clear k9 K8 hr8; rw [show frA zF none 0 = #[.int .i64 0, .int .i64 0, .int .i64 0, .int .i64 0, .int .i64 0, .slice none 0 0] from rfl])
  refine wp_world (fun wx => Kp (fun _ => False) w wx) (K9.out.alloc _) ?_
  clear K9 CZ HR8
  rintro w10 k10
  go_wp2_with (first | (go_at_call 18; refine (AW.out _).mono ?_; rintro e wa ⟨rfl, ka⟩) | (go_at_call 14; first | (with_reducible refine (C6.out _).mono ?_; rintro e wb ⟨rfl, kb⟩) | (with_reducible refine (C1.out _).mono ?_; rintro e wc ⟨rfl, kc⟩) | (with_reducible refine (C3.out _).mono ?_; rintro e wd ⟨rfl, kd⟩)))
  go_ret
  exact ⟨rfl, (k10.trans (ka.trans (kb.trans (kc.trans kd)))).below (fun _ _ h => h)⟩
end Go.Proofs.Ytjjoancnkjlaeaa
