/- Frames: the statements' own helpers: syn, laid, awake. -/
import Derived.Test.YtjjoancnkjlaeaaFrmT
import Derived.Test.YtjjoancnkjlaeaaFrmE
namespace Go.Proofs.Ytjjoancnkjlaeaa
open Go.RowKit
set_option linter.unusedVariables false
set_option linter.unusedSimpArgs false
theorem OwnB.form2 {w : World} {v : Value} {l : List Int} (h : OwnB w v l) : ∃ a c, v = .slice a l.length c ∧ RdB w a l ∧ l.length ≤ c ∧ c ≤ maxLen := by
  obtain ⟨a, c, e, h1, h2⟩ := h.form
  obtain ⟨a', c', e', _, h3⟩ := h.own.form
  rw [e] at e'
  cases e'
  exact ⟨a, c, e, h1, h2, h3⟩
def synF : Fr := ⟨1, 7, 0, 0, 0, []⟩
def synL : List Int := [83, 75, 1, 1, 0, 0, 0, 7, 0, 0, 0, 0, 0, 0, 0, 0, 0, 0, 0, 0, 0, 0]
theorem synL_head : head4 synF = synL := by simp [head4, synF, synL, be4, be2]
theorem synF_ok : errF synF = 0 := by decide
theorem synF_I : frI synF := by unfold frI synF; dsimp only; omega
theorem syn_any (w : World) : Calls Try.prog 26 #[] w fun e w' => e = .returned (.agg (frA synF none 0)) ∧ Kp (fun _ => False) w w' := by
  go_enter Try.func26, Try.ntmps26
  go_wp2
  exact bodyPost_ret (v := .agg (frA synF none 0)) (results_cell_row rfl _ _ w.heap.size 24 (frA synF none 0) (0, 0) _ rfl (heap_alloc_new w _) Try.underlying24 rfl fr_info) rfl ⟨rfl, (Kp.refl _ w).alloc _⟩
theorem laid_any (w : World) : Calls Try.prog 34 #[] w fun e w' => ∃ g, e = .returned (.slice (some ⟨g, 0, none⟩) 22 22) ∧ At w' g (synL.map (Value.int .u8)) ∧ w.heap.size ≤ g ∧ Kp (fun _ => False) w w' := by
  go_enter Try.func34, Try.ntmps34
  go_wp2
  go_ret
  exact ⟨w.heap.size, rfl, At.new w (synL.map (Value.int .u8)) _, Nat.le_refl _, (Kp.refl _ w).alloc _⟩
set_option maxRecDepth 20000 in
theorem awake_any (w : World) : Calls Try.prog 18 #[] w fun e w' => e = .returned (.bool true) ∧ Kp (fun _ => False) w w' := by
  have CP := Lib.hid (fun (w' : World) => fput_ok synF none 0 w' synF_I (RdB.nil _ _) (Nat.le_refl _) synF_ok)
  have CY := Lib.hid (fun w' => syn_any w')
  have CL := Lib.hid (fun w' => laid_any w')
  go_enter Try.func18, Try.ntmps18
  go_upto_region 2 with (first | (go_at_call 26; refine (CY.out _).mono ?_; rintro e w1 ⟨rfl, k1⟩) | (go_at_call 11; refine (CP.out _).mono ?_; rintro e w2 ⟨v, rfl, hv, hg, k2⟩; obtain ⟨a, c, rfl, hr, hc, hcm⟩ := hv.form2; have Hcm := Lib.hid hcm; clear hcm; rw [show (layF synF).length = 26 from layF_len synF] at hc hv ⊢))
  have hr6 : Hid (RdB w2 a (layF synF)) := hr
  obtain ⟨b, off, rfl, _⟩ := hr.cell 0 (by rw [layF_len]; omega)
  have h22 : ((layF synF).drop 0).take 22 = synL := by unfold layF put4; rw [synL_head]; simp [synL]
  have hrs : Hid (RdB w2 (some ⟨b, off, none⟩) synL) := by have := hr.slice 0 22; rw [h22] at this; exact this
  have K0 : Kp (fun _ => False) w2 w2.drew := (Kp.refl _ w2).drew
  have c22 : 22 ≤ c := by omega
  have z22 : (22 : Int) ≤ (c : Int) := by omega
  have c0 : ¬ c = 0 := by omega
  have KK := Lib.hid (k1.trans k2)
  clear hr hg hv h22 k1 k2
  go_region_held3 (fun w' => Kp (fun _ => False) w2 w') (first | assumption | exact K0 | exact Kp.trans ‹_› k3 | exact Kp.trans ‹_› k4) (first | (go_at_call 34; refine (CL.out _).mono ?_; rintro e w3 ⟨g, rfl, hgl, hgs, k3⟩) | (go_at_call 13; refine (same_n (some ⟨b, off, none⟩) (some ⟨g, 0, none⟩) 22 22 c 22 synL synL _ (hrs.out.kp0 ‹_› (fun _ _ h => h)) (RdB.of_at (pre := []) (post := []) (by simpa using hgl) (by intro x hx; simp [synL] at hx; omega) (by simp [synL])) rfl rfl).mono ?_; rintro e w4 ⟨rfl, rfl⟩))
  have KW : Kp (fun _ => False) w2 w3 := ‹_›
  have CR := Lib.hid (fread_any (some ⟨b, off, none⟩) c (layF synF) w3 (hr6.out.kp0 KW (fun _ _ h => h)) (by rw [layF_len]; simp [synF]) (by rw [layF_len]; exact hc) Hcm.out)
  rw [show (layF synF).length = 26 from layF_len synF] at CR
  have KW' := Lib.hid KW
  clear KW K0 hrs hr6 CL CP hgl hgs
  go_upto_region 5 with (go_at_call 19; refine CR.out.mono ?_; rintro e w5 ⟨A, c5, rfl, hrA, hfA, k5⟩; rw [(errR_lay synF_ok).2] at hrA; rw [(errR_lay synF_ok).1, (errR_lay synF_ok).2, show frA synF A c5 = #[.int .i64 1, .int .i64 7, .int .i64 0, .int .i64 0, .int .i64 0, .slice A 0 c5] from rfl])
  have K5 := Lib.hid (KK.out.trans (KW'.out.trans k5))
  have HRA := Lib.hid hrA
  clear hrA hfA k5 KK KW' CR
  refine wp_world (fun wx => At wx w5.heap.size [.int .i64 1, .int .i64 7, .int .i64 0, .int .i64 0, .int .i64 0, .slice A 0 c5] ∧ Kp (fun _ => False) w5 wx) ⟨At.new w5 _ _, (Kp.refl _ w5).alloc _⟩ ?_
  rintro wx ⟨hatx, kx⟩
  have q0 := (hatx.cell 0).trans (show _ = some (.int .i64 1) from rfl)
  have q1 := (hatx.cell 1).trans (show _ = some (.int .i64 7) from rfl)
  have q2 := (hatx.cell 2).trans (show _ = some (.int .i64 0) from rfl)
  have q3 := (hatx.cell 3).trans (show _ = some (.int .i64 0) from rfl)
  have q4 := (hatx.cell 4).trans (show _ = some (.int .i64 0) from rfl)
  have q5 := (hatx.cell 5).trans (show _ = some (.slice A 0 c5) from rfl)
  have KX := Lib.hid kx
  have CF := Lib.hid (fun (w' : World) (k : Kp (fun _ => False) wx w') => samef_any synF synF A none c5 0 w' ((HRA.out.kp0 KX.out (fun _ _ h => h)).kp0 k (fun _ _ h => h)) (RdB.nil _ _))
  rw [show sameF synF synF = true from (sameF_iff _ _).2 rfl] at CF
  have K0 : Kp (fun _ => False) wx wx.drew := (Kp.refl _ wx).drew
  have hS : Hid (∀ w', Kp (fun _ => False) wx w' → (Kp (fun _ => False) wx w' ∧ w'.cell? ⟨w5.heap.size, 0, none⟩ = some (.int .i64 1) ∧ w'.cell? ⟨w5.heap.size, 1, none⟩ = some (.int .i64 7) ∧ w'.cell? ⟨w5.heap.size, 2, none⟩ = some (.int .i64 0) ∧ w'.cell? ⟨w5.heap.size, 3, none⟩ = some (.int .i64 0) ∧ w'.cell? ⟨w5.heap.size, 4, none⟩ = some (.int .i64 0) ∧ w'.cell? ⟨w5.heap.size, 5, none⟩ = some (.slice A 0 c5))) := fun w' k => ⟨k, k.cell q0 (fun h => h), k.cell q1 (fun h => h), k.cell q2 (fun h => h), k.cell q3 (fun h => h), k.cell q4 (fun h => h), k.cell q5 (fun h => h)⟩
  clear hatx kx q0 q1 q2 q3 q4 q5
  go_region_held3 (fun w' => Kp (fun _ => False) wx w' ∧ w'.cell? ⟨w5.heap.size, 0, none⟩ = some (.int .i64 1) ∧ w'.cell? ⟨w5.heap.size, 1, none⟩ = some (.int .i64 7) ∧ w'.cell? ⟨w5.heap.size, 2, none⟩ = some (.int .i64 0) ∧ w'.cell? ⟨w5.heap.size, 3, none⟩ = some (.int .i64 0) ∧ w'.cell? ⟨w5.heap.size, 4, none⟩ = some (.int .i64 0) ∧ w'.cell? ⟨w5.heap.size, 5, none⟩ = some (.slice A 0 c5)) (first | assumption | (refine hS.out _ ?_; first | exact K0 | exact kk6 | exact kk7)) (first | (go_at_call 26; refine (CY.out _).mono ?_; rintro e w6 ⟨rfl, k6⟩; have kk6 := Kp.trans (by go_split_ands; assumption) k6) | (go_at_call 21; refine (CF.out _ (by go_split_ands; assumption)).mono ?_; rintro e w7 ⟨rfl, k7⟩; have kk7 := Kp.trans (by go_split_ands; assumption) k7))
  have K7 := Lib.hid (K5.out.trans (KX.out.trans kk7))
  go_wp2_with fail
  go_ret
  exact ⟨rfl, K7.out⟩
end Go.Proofs.Ytjjoancnkjlaeaa
