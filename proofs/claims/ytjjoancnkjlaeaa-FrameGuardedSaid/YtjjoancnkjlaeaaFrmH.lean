/- Package frame: Read past the sum: the exits. (Written by wip/freadgen.py.) -/
import Derived.Test.YtjjoancnkjlaeaaFrmG
namespace Go.Proofs.Ytjjoancnkjlaeaa
open Go.RowKit
set_option linter.unusedVariables false
set_option linter.unusedSimpArgs false
theorem fread_m0 (a : Option Addr) (cap : Nat) (l : List Int) (w : World) (h : RdB w a l) (hcap : l.length ≤ cap) (hcm : cap ≤ maxLen) (h1 : ¬ (1426 : Int) < l.length) (h2 : ¬ (l.length : Int) < 26) (h3 : ck l = 0) (h4 : (chk l).getD 0 0 ≠ 83) :
    Calls Try.prog 19 #[.slice a l.length cap] w fun e w' => e = .returned (.tuple #[.agg (frA zF none 0), .int .i64 211]) ∧ Kp (fun _ => False) w w' := by
  have C := Lib.hid (fun w' (k : Kp (fun _ => False) w w') => gcheck a cap l w' (h.kp0 k (fun _ _ h => h)) (by omega) hcap hcm)
  rw [h3] at C
  have hxl : (chk l).length + 4 = l.length := by unfold ck at h3; unfold chk; split at h3 <;> simp_all; omega
  have hm : 22 ≤ (chk l).length := by omega
  have hm2 : (chk l).length ≤ 1422 := by omega
  clear h hcm hcap h3 hxl
  generalize chk l = x at *
  obtain ⟨m, hml⟩ : ∃ m, m = x.length := ⟨_, rfl⟩
  rw [← hml] at hm hm2
  have HML := Lib.hid hml
  clear hml
  generalize l.length = n at *
  have i0 : 0 < m := by omega
  have i1 : 1 < m := by omega
  have i2 : 2 < m := by omega
  have i3 : 3 < m := by omega
  go_enter Try.func19, Try.ntmps19
  go_wp2_with (first | (go_at_call 25; refine (C.out _ ((Kp.refl _ w).alloc _)).mono ?_; rintro e w1 ⟨v, rfl, hv, hg, kq⟩; obtain ⟨xa, xc, rfl, hr, hxc⟩ := hv.form; rw [← HML.out] at hxc hv hg ⊢; have hat := kq.at (At.new w [.int .i64 0, .int .i64 0, .int .i64 0, .int .i64 0, .int .i64 0, .slice none 0 0] 24) (fun h => h); have x0 := (hat.cell 0).trans (show _ = some (.int .i64 0) from rfl); have x1 := (hat.cell 1).trans (show _ = some (.int .i64 0) from rfl); have x2 := (hat.cell 2).trans (show _ = some (.int .i64 0) from rfl); have x3 := (hat.cell 3).trans (show _ = some (.int .i64 0) from rfl); have x4 := (hat.cell 4).trans (show _ = some (.int .i64 0) from rfl); have x5 := (hat.cell 5).trans (show _ = some (.slice none 0 0) from rfl); have hf := fun i => hat.frozen i; obtain ⟨b, off, rfl, g0⟩ := hr.cell 0 (by have := HML.out; omega); obtain ⟨_, _, q1, g1⟩ := hr.cell 1 (by have := HML.out; omega); obtain ⟨_, _, q2, g2⟩ := hr.cell 2 (by have := HML.out; omega); obtain ⟨_, _, q3, g3⟩ := hr.cell 3 (by have := HML.out; omega); cases q1; cases q2; cases q3; rw [Nat.add_zero] at g0; have B3 := hr.bd.getD 3; generalize x.getD 0 0 = c0 at *; have q0 : (c0 == 83) = false := (by simpa using h4); have HA := Lib.hid (And.intro hat (And.intro (((Kp.refl (fun _ => False) w).alloc _).trans kq) (And.intro hv hg))); clear hat kq hv hg hr))
  exact fr_ret rfl (six HA.out.1 (by omega) HA.out.2.1 _ _ _ _ _ _).1 rfl rfl rfl ⟨rfl, (six HA.out.1 (by omega) HA.out.2.1 _ _ _ _ _ _).2⟩
theorem fread_m1 (a : Option Addr) (cap : Nat) (l : List Int) (w : World) (h : RdB w a l) (hcap : l.length ≤ cap) (hcm : cap ≤ maxLen) (h1 : ¬ (1426 : Int) < l.length) (h2 : ¬ (l.length : Int) < 26) (h3 : ck l = 0) (h4 : (chk l).getD 0 0 = 83) (h5 : (chk l).getD 1 0 ≠ 75) :
    Calls Try.prog 19 #[.slice a l.length cap] w fun e w' => e = .returned (.tuple #[.agg (frA zF none 0), .int .i64 211]) ∧ Kp (fun _ => False) w w' := by
  have C := Lib.hid (fun w' (k : Kp (fun _ => False) w w') => gcheck a cap l w' (h.kp0 k (fun _ _ h => h)) (by omega) hcap hcm)
  rw [h3] at C
  have hxl : (chk l).length + 4 = l.length := by unfold ck at h3; unfold chk; split at h3 <;> simp_all; omega
  have hm : 22 ≤ (chk l).length := by omega
  have hm2 : (chk l).length ≤ 1422 := by omega
  clear h hcm hcap h3 hxl
  generalize chk l = x at *
  obtain ⟨m, hml⟩ : ∃ m, m = x.length := ⟨_, rfl⟩
  rw [← hml] at hm hm2
  have HML := Lib.hid hml
  clear hml
  generalize l.length = n at *
  have i0 : 0 < m := by omega
  have i1 : 1 < m := by omega
  have i2 : 2 < m := by omega
  have i3 : 3 < m := by omega
  go_enter Try.func19, Try.ntmps19
  go_wp2_with (first | (go_at_call 25; refine (C.out _ ((Kp.refl _ w).alloc _)).mono ?_; rintro e w1 ⟨v, rfl, hv, hg, kq⟩; obtain ⟨xa, xc, rfl, hr, hxc⟩ := hv.form; rw [← HML.out] at hxc hv hg ⊢; have hat := kq.at (At.new w [.int .i64 0, .int .i64 0, .int .i64 0, .int .i64 0, .int .i64 0, .slice none 0 0] 24) (fun h => h); have x0 := (hat.cell 0).trans (show _ = some (.int .i64 0) from rfl); have x1 := (hat.cell 1).trans (show _ = some (.int .i64 0) from rfl); have x2 := (hat.cell 2).trans (show _ = some (.int .i64 0) from rfl); have x3 := (hat.cell 3).trans (show _ = some (.int .i64 0) from rfl); have x4 := (hat.cell 4).trans (show _ = some (.int .i64 0) from rfl); have x5 := (hat.cell 5).trans (show _ = some (.slice none 0 0) from rfl); have hf := fun i => hat.frozen i; obtain ⟨b, off, rfl, g0⟩ := hr.cell 0 (by have := HML.out; omega); obtain ⟨_, _, q1, g1⟩ := hr.cell 1 (by have := HML.out; omega); obtain ⟨_, _, q2, g2⟩ := hr.cell 2 (by have := HML.out; omega); obtain ⟨_, _, q3, g3⟩ := hr.cell 3 (by have := HML.out; omega); cases q1; cases q2; cases q3; rw [Nat.add_zero] at g0; have B3 := hr.bd.getD 3; rw [h4] at g0; generalize x.getD 1 0 = c1 at *; have q1 : (c1 == 75) = false := (by simpa using h5); have HA := Lib.hid (And.intro hat (And.intro (((Kp.refl (fun _ => False) w).alloc _).trans kq) (And.intro hv hg))); clear hat kq hv hg hr))
  exact fr_ret rfl (six HA.out.1 (by omega) HA.out.2.1 _ _ _ _ _ _).1 rfl rfl rfl ⟨rfl, (six HA.out.1 (by omega) HA.out.2.1 _ _ _ _ _ _).2⟩
theorem fread_v (a : Option Addr) (cap : Nat) (l : List Int) (w : World) (h : RdB w a l) (hcap : l.length ≤ cap) (hcm : cap ≤ maxLen) (h1 : ¬ (1426 : Int) < l.length) (h2 : ¬ (l.length : Int) < 26) (h3 : ck l = 0) (h4 : (chk l).getD 0 0 = 83) (h5 : (chk l).getD 1 0 = 75) (h6 : (chk l).getD 2 0 ≠ 1) :
    Calls Try.prog 19 #[.slice a l.length cap] w fun e w' => e = .returned (.tuple #[.agg (frA zF none 0), .int .i64 212]) ∧ Kp (fun _ => False) w w' := by
  have C := Lib.hid (fun w' (k : Kp (fun _ => False) w w') => gcheck a cap l w' (h.kp0 k (fun _ _ h => h)) (by omega) hcap hcm)
  rw [h3] at C
  have hxl : (chk l).length + 4 = l.length := by unfold ck at h3; unfold chk; split at h3 <;> simp_all; omega
  have hm : 22 ≤ (chk l).length := by omega
  have hm2 : (chk l).length ≤ 1422 := by omega
  clear h hcm hcap h3 hxl
  generalize chk l = x at *
  obtain ⟨m, hml⟩ : ∃ m, m = x.length := ⟨_, rfl⟩
  rw [← hml] at hm hm2
  have HML := Lib.hid hml
  clear hml
  generalize l.length = n at *
  have i0 : 0 < m := by omega
  have i1 : 1 < m := by omega
  have i2 : 2 < m := by omega
  have i3 : 3 < m := by omega
  go_enter Try.func19, Try.ntmps19
  go_wp2_with (first | (go_at_call 25; refine (C.out _ ((Kp.refl _ w).alloc _)).mono ?_; rintro e w1 ⟨v, rfl, hv, hg, kq⟩; obtain ⟨xa, xc, rfl, hr, hxc⟩ := hv.form; rw [← HML.out] at hxc hv hg ⊢; have hat := kq.at (At.new w [.int .i64 0, .int .i64 0, .int .i64 0, .int .i64 0, .int .i64 0, .slice none 0 0] 24) (fun h => h); have x0 := (hat.cell 0).trans (show _ = some (.int .i64 0) from rfl); have x1 := (hat.cell 1).trans (show _ = some (.int .i64 0) from rfl); have x2 := (hat.cell 2).trans (show _ = some (.int .i64 0) from rfl); have x3 := (hat.cell 3).trans (show _ = some (.int .i64 0) from rfl); have x4 := (hat.cell 4).trans (show _ = some (.int .i64 0) from rfl); have x5 := (hat.cell 5).trans (show _ = some (.slice none 0 0) from rfl); have hf := fun i => hat.frozen i; obtain ⟨b, off, rfl, g0⟩ := hr.cell 0 (by have := HML.out; omega); obtain ⟨_, _, q1, g1⟩ := hr.cell 1 (by have := HML.out; omega); obtain ⟨_, _, q2, g2⟩ := hr.cell 2 (by have := HML.out; omega); obtain ⟨_, _, q3, g3⟩ := hr.cell 3 (by have := HML.out; omega); cases q1; cases q2; cases q3; rw [Nat.add_zero] at g0; have B3 := hr.bd.getD 3; rw [h4] at g0; rw [h5] at g1; generalize x.getD 2 0 = c2 at *; have q1 : (c2 == 1) = false := (by simpa using h6); have HA := Lib.hid (And.intro hat (And.intro (((Kp.refl (fun _ => False) w).alloc _).trans kq) (And.intro hv hg))); clear hat kq hv hg hr))
  exact fr_ret rfl (six HA.out.1 (by omega) HA.out.2.1 _ _ _ _ _ _).1 rfl rfl rfl ⟨rfl, (six HA.out.1 (by omega) HA.out.2.1 _ _ _ _ _ _).2⟩
theorem fread_t (a : Option Addr) (cap : Nat) (l : List Int) (w : World) (h : RdB w a l) (hcap : l.length ≤ cap) (hcm : cap ≤ maxLen) (h1 : ¬ (1426 : Int) < l.length) (h2 : ¬ (l.length : Int) < 26) (h3 : ck l = 0) (h4 : (chk l).getD 0 0 = 83) (h5 : (chk l).getD 1 0 = 75) (h6 : (chk l).getD 2 0 = 1) (h7 : ¬ typedP ((chk l).getD 3 0)) :
    Calls Try.prog 19 #[.slice a l.length cap] w fun e w' => e = .returned (.tuple #[.agg (frA zF none 0), .int .i64 213]) ∧ Kp (fun _ => False) w w' := by
  have C := Lib.hid (fun w' (k : Kp (fun _ => False) w w') => gcheck a cap l w' (h.kp0 k (fun _ _ h => h)) (by omega) hcap hcm)
  rw [h3] at C
  have hxl : (chk l).length + 4 = l.length := by unfold ck at h3; unfold chk; split at h3 <;> simp_all; omega
  have hm : 22 ≤ (chk l).length := by omega
  have hm2 : (chk l).length ≤ 1422 := by omega
  clear h hcm hcap h3 hxl
  generalize chk l = x at *
  obtain ⟨m, hml⟩ : ∃ m, m = x.length := ⟨_, rfl⟩
  rw [← hml] at hm hm2
  have HML := Lib.hid hml
  clear hml
  generalize l.length = n at *
  have CK := Lib.hid (fun w' => known_any (x.getD 3 0) w')
  rw [show decide (typedP (x.getD 3 0)) = false by simpa using h7] at CK
  have i0 : 0 < m := by omega
  have i1 : 1 < m := by omega
  have i2 : 2 < m := by omega
  have i3 : 3 < m := by omega
  go_enter Try.func19, Try.ntmps19
  go_wp2_with (first | (go_at_call 25; refine (C.out _ ((Kp.refl _ w).alloc _)).mono ?_; rintro e w1 ⟨v, rfl, hv, hg, kq⟩; obtain ⟨xa, xc, rfl, hr, hxc⟩ := hv.form; rw [← HML.out] at hxc hv hg ⊢; have hat := kq.at (At.new w [.int .i64 0, .int .i64 0, .int .i64 0, .int .i64 0, .int .i64 0, .slice none 0 0] 24) (fun h => h); have x0 := (hat.cell 0).trans (show _ = some (.int .i64 0) from rfl); have x1 := (hat.cell 1).trans (show _ = some (.int .i64 0) from rfl); have x2 := (hat.cell 2).trans (show _ = some (.int .i64 0) from rfl); have x3 := (hat.cell 3).trans (show _ = some (.int .i64 0) from rfl); have x4 := (hat.cell 4).trans (show _ = some (.int .i64 0) from rfl); have x5 := (hat.cell 5).trans (show _ = some (.slice none 0 0) from rfl); have hf := fun i => hat.frozen i; obtain ⟨b, off, rfl, g0⟩ := hr.cell 0 (by have := HML.out; omega); obtain ⟨_, _, q1, g1⟩ := hr.cell 1 (by have := HML.out; omega); obtain ⟨_, _, q2, g2⟩ := hr.cell 2 (by have := HML.out; omega); obtain ⟨_, _, q3, g3⟩ := hr.cell 3 (by have := HML.out; omega); cases q1; cases q2; cases q3; rw [Nat.add_zero] at g0; have B3 := hr.bd.getD 3; rw [h4] at g0; rw [h5] at g1; rw [h6] at g2; generalize x.getD 3 0 = c3 at *; have HA := Lib.hid (And.intro hat (And.intro (((Kp.refl (fun _ => False) w).alloc _).trans kq) (And.intro hv hg))); clear hat kq hv hg hr) | (go_at_call 29; refine (CK.out _).mono ?_; rintro e w2 ⟨rfl, rfl⟩))
  exact fr_ret rfl (six HA.out.1 (by omega) HA.out.2.1 _ _ _ _ _ _).1 rfl rfl rfl ⟨rfl, (six HA.out.1 (by omega) HA.out.2.1 _ _ _ _ _ _).2⟩
end Go.Proofs.Ytjjoancnkjlaeaa
