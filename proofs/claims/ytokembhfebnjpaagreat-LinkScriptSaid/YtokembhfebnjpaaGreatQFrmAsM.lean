/- Package frame: as, one theorem a type. (Written by wip/frmgen.py.) -/
import Derived.Test.YtokembhfebnjpaaGreatQFrm
import Derived.Deep.RegionWith
import Derived.Deep.DeepCutAuto
namespace Go.Proofs.YtokembhfebnjpaaGreat
set_option maxRecDepth 20000
open Go.RowKit
set_option linter.unusedVariables false
set_option linter.unusedSimpArgs false
theorem dec_t {P : Prop} [Decidable P] (h : P) : true = decide P := (decide_eq_true h).symm
theorem dec_f {P : Prop} [Decidable P] (h : ¬ P) : false = decide P := (decide_eq_false h).symm

set_option maxHeartbeats 2000000 in
theorem as_1 (se bo sq ac : Int) (a : Option Addr) (n c : Nat) (w : World) (hr : rangeP se bo sq ac) (hl : n ≤ 4611686018427387904) :
 Calls Tryz.prog 61 #[.agg #[.int .i64 1, .int .i64 se, .int .i64 bo, .int .i64 sq, .int .i64 ac, .slice a n c]] w fun e w' => e = .returned (.bool (decide (sayP 1 se bo sq ac n))) ∧ Kp (fun _ => False) w w' := by
 obtain ⟨⟨r1, r2⟩, ⟨r3, r4⟩, ⟨r5, r6⟩, r7, r8⟩ := hr
 go_enter Tryz.func61, Tryz.ntmps61
 go_wp2_with fail
 obtain ⟨b, hb⟩ : ∃ b, b = w.heap.size := ⟨_, rfl⟩
 rw [← hb]
 refine wp_world (fun W0 => At W0 b [.int .i64 1, .int .i64 se, .int .i64 bo, .int .i64 sq, .int .i64 ac, .slice a n c] ∧ Kp (fun _ => False) w W0) ⟨by rw [hb]; exact At.new w [.int .i64 1, .int .i64 se, .int .i64 bo, .int .i64 sq, .int .i64 ac, .slice a n c] _, (Kp.refl _ w).alloc _⟩ ?_
 rintro W0 ⟨hat0, hk0⟩
 have c0 : W0.cell? ⟨b, 0, none⟩ = some (.int .i64 1) := by rw [hat0.cell]; rfl
 have hb0 := hat0.lt
 have H0 := Lib.hid (And.intro hat0 hk0)
 have hT := types_any W0.drew
 have HT := Lib.hid hT
 clear hat0 hk0 hT hb
 go_upto_region 1 with fail
 go_cut [3] (fun s3 wx => ∃ g, s3 = .pointer (some ⟨g, 0, none⟩) ∧ At wx g [.bool false, .bool false, .bool false, .bool false, .bool false] ∧ At wx b [.int .i64 1, .int .i64 se, .int .i64 bo, .int .i64 sq, .int .i64 ac, .slice a n c] ∧ Kp (fun _ => False) w wx)
 case first =>
  have hne : W0.heap.size ≠ b := by omega
  have HLE := Lib.hid H0.out.2.size
  have c00 : W0.drew.cell? ⟨b, 0, none⟩ = some (.int .i64 1) := c0
  have ca := fun o => ((Kp.refl (fun _ => False) W0).alloc o).cell c0 (fun h => h)
  go_region_with ((go_at_call 75; refine (types_any _).mono ?_; rintro e w1 ⟨rfl, hat, kq⟩; simp only [heap_drew] at hat; (try simp only [World.size_alloc] at hat); have c0' : w1.cell? ⟨b, 0, none⟩ = some (.int .i64 1) := (kq.cell (by first | exact c0 | exact ca _) (fun h => h)); have ca' := fun o => ((Kp.refl (fun _ => False) w1).alloc o).cell c0' (fun h => h); have q0 := (hat.cell 5).trans (show _ = some (.bool false) from rfl); have y0 := fun o => ((Kp.refl (fun _ => False) w1).alloc o).cell q0 (fun h => h); have q1 := (hat.cell 6).trans (show _ = some (.bool false) from rfl); have y1 := fun o => ((Kp.refl (fun _ => False) w1).alloc o).cell q1 (fun h => h); have q2 := (hat.cell 7).trans (show _ = some (.bool false) from rfl); have y2 := fun o => ((Kp.refl (fun _ => False) w1).alloc o).cell q2 (fun h => h); have q3 := (hat.cell 8).trans (show _ = some (.bool false) from rfl); have y3 := fun o => ((Kp.refl (fun _ => False) w1).alloc o).cell q3 (fun h => h); have q4 := (hat.cell 9).trans (show _ = some (.bool false) from rfl); have y4 := fun o => ((Kp.refl (fun _ => False) w1).alloc o).cell q4 (fun h => h); have hs1 := hat.lt; (try (have zat : At w1 W0.heap.size [.bool false, .bool false, .bool false, .bool false, .bool false] := kq.at (At.new W0 [.bool false, .bool false, .bool false, .bool false, .bool false] 122) (fun h => h); have z0 := (zat.cell 0).trans (show _ = some (.bool false) from rfl); have z1 := (zat.cell 1).trans (show _ = some (.bool false) from rfl); have z2 := (zat.cell 2).trans (show _ = some (.bool false) from rfl); have z3 := (zat.cell 3).trans (show _ = some (.bool false) from rfl); have z4 := (zat.cell 4).trans (show _ = some (.bool false) from rfl); have zf := fun i => zat.frozen i; have ZAT := Lib.hid zat; clear zat)); have K1 := Lib.hid (And.intro hat kq); clear hat kq))
  all_goals (go_wp2_with fail; go_meet)
  all_goals (first | (exact ⟨_, rfl, by simpa using At.new w1 [.bool false, .bool false, .bool false, .bool false, .bool false] 122, (K1.out.2.at (H0.out.1.drew) (fun h => h)).alloc _, (H0.out.2.drew.trans K1.out.2).alloc _⟩) | (exact ⟨_, rfl, ((((ZAT.out.set 0 _).set 1 _).set 2 _).set 3 _).set 4 _, (((((K1.out.2.at (H0.out.1.alloc _) (fun h => h)).setOther hne _).setOther hne _).setOther hne _).setOther hne _).setOther hne _, ((((((H0.out.2.alloc _).drew.trans K1.out.2).setCell (fun h => by have := HLE.out; simp at h; omega) _).setCell (fun h => by have := HLE.out; simp at h; omega) _).setCell (fun h => by have := HLE.out; simp at h; omega) _).setCell (fun h => by have := HLE.out; simp at h; omega) _).setCell (fun h => by have := HLE.out; simp at h; omega) _⟩))
 case rest =>
  obtain ⟨g, rfl, hg, hbx, hk⟩ := hcut
  have p0 : wc.cell? ⟨g, 0, none⟩ = some (.bool false) := by rw [hg.cell]; rfl
  have p1 : wc.cell? ⟨g, 1, none⟩ = some (.bool false) := by rw [hg.cell]; rfl
  have p2 : wc.cell? ⟨g, 2, none⟩ = some (.bool false) := by rw [hg.cell]; rfl
  have p3 : wc.cell? ⟨g, 3, none⟩ = some (.bool false) := by rw [hg.cell]; rfl
  have p4 : wc.cell? ⟨g, 4, none⟩ = some (.bool false) := by rw [hg.cell]; rfl
  have x1 : wc.cell? ⟨b, 1, none⟩ = some (.int .i64 se) := by rw [hbx.cell]; rfl
  have x2 : wc.cell? ⟨b, 2, none⟩ = some (.int .i64 bo) := by rw [hbx.cell]; rfl
  have x3 : wc.cell? ⟨b, 3, none⟩ = some (.int .i64 sq) := by rw [hbx.cell]; rfl
  have x4 : wc.cell? ⟨b, 4, none⟩ = some (.int .i64 ac) := by rw [hbx.cell]; rfl
  have x5 : wc.cell? ⟨b, 5, none⟩ = some (.slice a n c) := by rw [hbx.cell]; rfl
  have HK := Lib.hid hk
  clear hg hbx hk c0 H0 HT hb0
  go_wp2
  all_goals
   go_ret
   first
   | exact ⟨ret_bool (dec_f (by unfold sayP; clear HK p0 p1 p2 p3 p4 x1 x2 x3 x4 x5; first | omega | (simp at *; done) | (simp at *; omega))), HK.out⟩
   | exact ⟨ret_bool (dec_t (by unfold sayP; clear HK p0 p1 p2 p3 p4 x1 x2 x3 x4 x5; first | omega | (simp at *; done) | (simp at *; omega))), HK.out⟩

set_option maxHeartbeats 2000000 in
theorem as_2 (se bo sq ac : Int) (a : Option Addr) (n c : Nat) (w : World) (hr : rangeP se bo sq ac) (hl : n ≤ 4611686018427387904) :
 Calls Tryz.prog 61 #[.agg #[.int .i64 2, .int .i64 se, .int .i64 bo, .int .i64 sq, .int .i64 ac, .slice a n c]] w fun e w' => e = .returned (.bool (decide (sayP 2 se bo sq ac n))) ∧ Kp (fun _ => False) w w' := by
 obtain ⟨⟨r1, r2⟩, ⟨r3, r4⟩, ⟨r5, r6⟩, r7, r8⟩ := hr
 go_enter Tryz.func61, Tryz.ntmps61
 go_wp2_with fail
 obtain ⟨b, hb⟩ : ∃ b, b = w.heap.size := ⟨_, rfl⟩
 rw [← hb]
 refine wp_world (fun W0 => At W0 b [.int .i64 2, .int .i64 se, .int .i64 bo, .int .i64 sq, .int .i64 ac, .slice a n c] ∧ Kp (fun _ => False) w W0) ⟨by rw [hb]; exact At.new w [.int .i64 2, .int .i64 se, .int .i64 bo, .int .i64 sq, .int .i64 ac, .slice a n c] _, (Kp.refl _ w).alloc _⟩ ?_
 rintro W0 ⟨hat0, hk0⟩
 have c0 : W0.cell? ⟨b, 0, none⟩ = some (.int .i64 2) := by rw [hat0.cell]; rfl
 have hb0 := hat0.lt
 have H0 := Lib.hid (And.intro hat0 hk0)
 have hT := types_any W0.drew
 have HT := Lib.hid hT
 clear hat0 hk0 hT hb
 go_upto_region 1 with fail
 go_cut [3] (fun s3 wx => ∃ g, s3 = .pointer (some ⟨g, 0, none⟩) ∧ At wx g [.bool true, .bool false, .bool false, .bool false, .bool true] ∧ At wx b [.int .i64 2, .int .i64 se, .int .i64 bo, .int .i64 sq, .int .i64 ac, .slice a n c] ∧ Kp (fun _ => False) w wx)
 case first =>
  have hne : W0.heap.size ≠ b := by omega
  have HLE := Lib.hid H0.out.2.size
  have c00 : W0.drew.cell? ⟨b, 0, none⟩ = some (.int .i64 2) := c0
  have ca := fun o => ((Kp.refl (fun _ => False) W0).alloc o).cell c0 (fun h => h)
  go_region_with ((go_at_call 75; refine (types_any _).mono ?_; rintro e w1 ⟨rfl, hat, kq⟩; simp only [heap_drew] at hat; (try simp only [World.size_alloc] at hat); have c0' : w1.cell? ⟨b, 0, none⟩ = some (.int .i64 2) := (kq.cell (by first | exact c0 | exact ca _) (fun h => h)); have ca' := fun o => ((Kp.refl (fun _ => False) w1).alloc o).cell c0' (fun h => h); have q0 := (hat.cell 10).trans (show _ = some (.bool true) from rfl); have y0 := fun o => ((Kp.refl (fun _ => False) w1).alloc o).cell q0 (fun h => h); have q1 := (hat.cell 11).trans (show _ = some (.bool false) from rfl); have y1 := fun o => ((Kp.refl (fun _ => False) w1).alloc o).cell q1 (fun h => h); have q2 := (hat.cell 12).trans (show _ = some (.bool false) from rfl); have y2 := fun o => ((Kp.refl (fun _ => False) w1).alloc o).cell q2 (fun h => h); have q3 := (hat.cell 13).trans (show _ = some (.bool false) from rfl); have y3 := fun o => ((Kp.refl (fun _ => False) w1).alloc o).cell q3 (fun h => h); have q4 := (hat.cell 14).trans (show _ = some (.bool true) from rfl); have y4 := fun o => ((Kp.refl (fun _ => False) w1).alloc o).cell q4 (fun h => h); have hs1 := hat.lt; (try (have zat : At w1 W0.heap.size [.bool false, .bool false, .bool false, .bool false, .bool false] := kq.at (At.new W0 [.bool false, .bool false, .bool false, .bool false, .bool false] 122) (fun h => h); have z0 := (zat.cell 0).trans (show _ = some (.bool false) from rfl); have z1 := (zat.cell 1).trans (show _ = some (.bool false) from rfl); have z2 := (zat.cell 2).trans (show _ = some (.bool false) from rfl); have z3 := (zat.cell 3).trans (show _ = some (.bool false) from rfl); have z4 := (zat.cell 4).trans (show _ = some (.bool false) from rfl); have zf := fun i => zat.frozen i; have ZAT := Lib.hid zat; clear zat)); have K1 := Lib.hid (And.intro hat kq); clear hat kq))
  all_goals (go_wp2_with fail; go_meet)
  all_goals (first | (exact ⟨_, rfl, by simpa using At.new w1 [.bool true, .bool false, .bool false, .bool false, .bool true] 122, (K1.out.2.at (H0.out.1.drew) (fun h => h)).alloc _, (H0.out.2.drew.trans K1.out.2).alloc _⟩) | (exact ⟨_, rfl, ((((ZAT.out.set 0 _).set 1 _).set 2 _).set 3 _).set 4 _, (((((K1.out.2.at (H0.out.1.alloc _) (fun h => h)).setOther hne _).setOther hne _).setOther hne _).setOther hne _).setOther hne _, ((((((H0.out.2.alloc _).drew.trans K1.out.2).setCell (fun h => by have := HLE.out; simp at h; omega) _).setCell (fun h => by have := HLE.out; simp at h; omega) _).setCell (fun h => by have := HLE.out; simp at h; omega) _).setCell (fun h => by have := HLE.out; simp at h; omega) _).setCell (fun h => by have := HLE.out; simp at h; omega) _⟩))
 case rest =>
  obtain ⟨g, rfl, hg, hbx, hk⟩ := hcut
  have p0 : wc.cell? ⟨g, 0, none⟩ = some (.bool true) := by rw [hg.cell]; rfl
  have p1 : wc.cell? ⟨g, 1, none⟩ = some (.bool false) := by rw [hg.cell]; rfl
  have p2 : wc.cell? ⟨g, 2, none⟩ = some (.bool false) := by rw [hg.cell]; rfl
  have p3 : wc.cell? ⟨g, 3, none⟩ = some (.bool false) := by rw [hg.cell]; rfl
  have p4 : wc.cell? ⟨g, 4, none⟩ = some (.bool true) := by rw [hg.cell]; rfl
  have x1 : wc.cell? ⟨b, 1, none⟩ = some (.int .i64 se) := by rw [hbx.cell]; rfl
  have x2 : wc.cell? ⟨b, 2, none⟩ = some (.int .i64 bo) := by rw [hbx.cell]; rfl
  have x3 : wc.cell? ⟨b, 3, none⟩ = some (.int .i64 sq) := by rw [hbx.cell]; rfl
  have x4 : wc.cell? ⟨b, 4, none⟩ = some (.int .i64 ac) := by rw [hbx.cell]; rfl
  have x5 : wc.cell? ⟨b, 5, none⟩ = some (.slice a n c) := by rw [hbx.cell]; rfl
  have HK := Lib.hid hk
  clear hg hbx hk c0 H0 HT hb0
  go_wp2
  all_goals
   go_ret
   first
   | exact ⟨ret_bool (dec_f (by unfold sayP; clear HK p0 p1 p2 p3 p4 x1 x2 x3 x4 x5; first | omega | (simp at *; done) | (simp at *; omega))), HK.out⟩
   | exact ⟨ret_bool (dec_t (by unfold sayP; clear HK p0 p1 p2 p3 p4 x1 x2 x3 x4 x5; first | omega | (simp at *; done) | (simp at *; omega))), HK.out⟩

set_option maxHeartbeats 2000000 in
theorem as_3 (se bo sq ac : Int) (a : Option Addr) (n c : Nat) (w : World) (hr : rangeP se bo sq ac) (hl : n ≤ 4611686018427387904) :
 Calls Tryz.prog 61 #[.agg #[.int .i64 3, .int .i64 se, .int .i64 bo, .int .i64 sq, .int .i64 ac, .slice a n c]] w fun e w' => e = .returned (.bool (decide (sayP 3 se bo sq ac n))) ∧ Kp (fun _ => False) w w' := by
 obtain ⟨⟨r1, r2⟩, ⟨r3, r4⟩, ⟨r5, r6⟩, r7, r8⟩ := hr
 go_enter Tryz.func61, Tryz.ntmps61
 go_wp2_with fail
 obtain ⟨b, hb⟩ : ∃ b, b = w.heap.size := ⟨_, rfl⟩
 rw [← hb]
 refine wp_world (fun W0 => At W0 b [.int .i64 3, .int .i64 se, .int .i64 bo, .int .i64 sq, .int .i64 ac, .slice a n c] ∧ Kp (fun _ => False) w W0) ⟨by rw [hb]; exact At.new w [.int .i64 3, .int .i64 se, .int .i64 bo, .int .i64 sq, .int .i64 ac, .slice a n c] _, (Kp.refl _ w).alloc _⟩ ?_
 rintro W0 ⟨hat0, hk0⟩
 have c0 : W0.cell? ⟨b, 0, none⟩ = some (.int .i64 3) := by rw [hat0.cell]; rfl
 have hb0 := hat0.lt
 have H0 := Lib.hid (And.intro hat0 hk0)
 have hT := types_any W0.drew
 have HT := Lib.hid hT
 clear hat0 hk0 hT hb
 go_upto_region 1 with fail
 go_cut [3] (fun s3 wx => ∃ g, s3 = .pointer (some ⟨g, 0, none⟩) ∧ At wx g [.bool true, .bool true, .bool true, .bool true, .bool true] ∧ At wx b [.int .i64 3, .int .i64 se, .int .i64 bo, .int .i64 sq, .int .i64 ac, .slice a n c] ∧ Kp (fun _ => False) w wx)
 case first =>
  have hne : W0.heap.size ≠ b := by omega
  have HLE := Lib.hid H0.out.2.size
  have c00 : W0.drew.cell? ⟨b, 0, none⟩ = some (.int .i64 3) := c0
  have ca := fun o => ((Kp.refl (fun _ => False) W0).alloc o).cell c0 (fun h => h)
  go_region_with ((go_at_call 75; refine (types_any _).mono ?_; rintro e w1 ⟨rfl, hat, kq⟩; simp only [heap_drew] at hat; (try simp only [World.size_alloc] at hat); have c0' : w1.cell? ⟨b, 0, none⟩ = some (.int .i64 3) := (kq.cell (by first | exact c0 | exact ca _) (fun h => h)); have ca' := fun o => ((Kp.refl (fun _ => False) w1).alloc o).cell c0' (fun h => h); have q0 := (hat.cell 15).trans (show _ = some (.bool true) from rfl); have y0 := fun o => ((Kp.refl (fun _ => False) w1).alloc o).cell q0 (fun h => h); have q1 := (hat.cell 16).trans (show _ = some (.bool true) from rfl); have y1 := fun o => ((Kp.refl (fun _ => False) w1).alloc o).cell q1 (fun h => h); have q2 := (hat.cell 17).trans (show _ = some (.bool true) from rfl); have y2 := fun o => ((Kp.refl (fun _ => False) w1).alloc o).cell q2 (fun h => h); have q3 := (hat.cell 18).trans (show _ = some (.bool true) from rfl); have y3 := fun o => ((Kp.refl (fun _ => False) w1).alloc o).cell q3 (fun h => h); have q4 := (hat.cell 19).trans (show _ = some (.bool true) from rfl); have y4 := fun o => ((Kp.refl (fun _ => False) w1).alloc o).cell q4 (fun h => h); have hs1 := hat.lt; (try (have zat : At w1 W0.heap.size [.bool false, .bool false, .bool false, .bool false, .bool false] := kq.at (At.new W0 [.bool false, .bool false, .bool false, .bool false, .bool false] 122) (fun h => h); have z0 := (zat.cell 0).trans (show _ = some (.bool false) from rfl); have z1 := (zat.cell 1).trans (show _ = some (.bool false) from rfl); have z2 := (zat.cell 2).trans (show _ = some (.bool false) from rfl); have z3 := (zat.cell 3).trans (show _ = some (.bool false) from rfl); have z4 := (zat.cell 4).trans (show _ = some (.bool false) from rfl); have zf := fun i => zat.frozen i; have ZAT := Lib.hid zat; clear zat)); have K1 := Lib.hid (And.intro hat kq); clear hat kq))
  all_goals (go_wp2_with fail; go_meet)
  all_goals (first | (exact ⟨_, rfl, by simpa using At.new w1 [.bool true, .bool true, .bool true, .bool true, .bool true] 122, (K1.out.2.at (H0.out.1.drew) (fun h => h)).alloc _, (H0.out.2.drew.trans K1.out.2).alloc _⟩) | (exact ⟨_, rfl, ((((ZAT.out.set 0 _).set 1 _).set 2 _).set 3 _).set 4 _, (((((K1.out.2.at (H0.out.1.alloc _) (fun h => h)).setOther hne _).setOther hne _).setOther hne _).setOther hne _).setOther hne _, ((((((H0.out.2.alloc _).drew.trans K1.out.2).setCell (fun h => by have := HLE.out; simp at h; omega) _).setCell (fun h => by have := HLE.out; simp at h; omega) _).setCell (fun h => by have := HLE.out; simp at h; omega) _).setCell (fun h => by have := HLE.out; simp at h; omega) _).setCell (fun h => by have := HLE.out; simp at h; omega) _⟩))
 case rest =>
  obtain ⟨g, rfl, hg, hbx, hk⟩ := hcut
  have p0 : wc.cell? ⟨g, 0, none⟩ = some (.bool true) := by rw [hg.cell]; rfl
  have p1 : wc.cell? ⟨g, 1, none⟩ = some (.bool true) := by rw [hg.cell]; rfl
  have p2 : wc.cell? ⟨g, 2, none⟩ = some (.bool true) := by rw [hg.cell]; rfl
  have p3 : wc.cell? ⟨g, 3, none⟩ = some (.bool true) := by rw [hg.cell]; rfl
  have p4 : wc.cell? ⟨g, 4, none⟩ = some (.bool true) := by rw [hg.cell]; rfl
  have x1 : wc.cell? ⟨b, 1, none⟩ = some (.int .i64 se) := by rw [hbx.cell]; rfl
  have x2 : wc.cell? ⟨b, 2, none⟩ = some (.int .i64 bo) := by rw [hbx.cell]; rfl
  have x3 : wc.cell? ⟨b, 3, none⟩ = some (.int .i64 sq) := by rw [hbx.cell]; rfl
  have x4 : wc.cell? ⟨b, 4, none⟩ = some (.int .i64 ac) := by rw [hbx.cell]; rfl
  have x5 : wc.cell? ⟨b, 5, none⟩ = some (.slice a n c) := by rw [hbx.cell]; rfl
  have HK := Lib.hid hk
  clear hg hbx hk c0 H0 HT hb0
  go_wp2
  all_goals
   go_ret
   first
   | exact ⟨ret_bool (dec_f (by unfold sayP; clear HK p0 p1 p2 p3 p4 x1 x2 x3 x4 x5; first | omega | (simp at *; done) | (simp at *; omega))), HK.out⟩
   | exact ⟨ret_bool (dec_t (by unfold sayP; clear HK p0 p1 p2 p3 p4 x1 x2 x3 x4 x5; first | omega | (simp at *; done) | (simp at *; omega))), HK.out⟩

set_option maxHeartbeats 2000000 in
theorem as_4 (se bo sq ac : Int) (a : Option Addr) (n c : Nat) (w : World) (hr : rangeP se bo sq ac) (hl : n ≤ 4611686018427387904) :
 Calls Tryz.prog 61 #[.agg #[.int .i64 4, .int .i64 se, .int .i64 bo, .int .i64 sq, .int .i64 ac, .slice a n c]] w fun e w' => e = .returned (.bool (decide (sayP 4 se bo sq ac n))) ∧ Kp (fun _ => False) w w' := by
 obtain ⟨⟨r1, r2⟩, ⟨r3, r4⟩, ⟨r5, r6⟩, r7, r8⟩ := hr
 go_enter Tryz.func61, Tryz.ntmps61
 go_wp2_with fail
 obtain ⟨b, hb⟩ : ∃ b, b = w.heap.size := ⟨_, rfl⟩
 rw [← hb]
 refine wp_world (fun W0 => At W0 b [.int .i64 4, .int .i64 se, .int .i64 bo, .int .i64 sq, .int .i64 ac, .slice a n c] ∧ Kp (fun _ => False) w W0) ⟨by rw [hb]; exact At.new w [.int .i64 4, .int .i64 se, .int .i64 bo, .int .i64 sq, .int .i64 ac, .slice a n c] _, (Kp.refl _ w).alloc _⟩ ?_
 rintro W0 ⟨hat0, hk0⟩
 have c0 : W0.cell? ⟨b, 0, none⟩ = some (.int .i64 4) := by rw [hat0.cell]; rfl
 have hb0 := hat0.lt
 have H0 := Lib.hid (And.intro hat0 hk0)
 have hT := types_any W0.drew
 have HT := Lib.hid hT
 clear hat0 hk0 hT hb
 go_upto_region 1 with fail
 go_cut [3] (fun s3 wx => ∃ g, s3 = .pointer (some ⟨g, 0, none⟩) ∧ At wx g [.bool true, .bool false, .bool true, .bool false, .bool true] ∧ At wx b [.int .i64 4, .int .i64 se, .int .i64 bo, .int .i64 sq, .int .i64 ac, .slice a n c] ∧ Kp (fun _ => False) w wx)
 case first =>
  have hne : W0.heap.size ≠ b := by omega
  have HLE := Lib.hid H0.out.2.size
  have c00 : W0.drew.cell? ⟨b, 0, none⟩ = some (.int .i64 4) := c0
  have ca := fun o => ((Kp.refl (fun _ => False) W0).alloc o).cell c0 (fun h => h)
  go_region_with ((go_at_call 75; refine (types_any _).mono ?_; rintro e w1 ⟨rfl, hat, kq⟩; simp only [heap_drew] at hat; (try simp only [World.size_alloc] at hat); have c0' : w1.cell? ⟨b, 0, none⟩ = some (.int .i64 4) := (kq.cell (by first | exact c0 | exact ca _) (fun h => h)); have ca' := fun o => ((Kp.refl (fun _ => False) w1).alloc o).cell c0' (fun h => h); have q0 := (hat.cell 20).trans (show _ = some (.bool true) from rfl); have y0 := fun o => ((Kp.refl (fun _ => False) w1).alloc o).cell q0 (fun h => h); have q1 := (hat.cell 21).trans (show _ = some (.bool false) from rfl); have y1 := fun o => ((Kp.refl (fun _ => False) w1).alloc o).cell q1 (fun h => h); have q2 := (hat.cell 22).trans (show _ = some (.bool true) from rfl); have y2 := fun o => ((Kp.refl (fun _ => False) w1).alloc o).cell q2 (fun h => h); have q3 := (hat.cell 23).trans (show _ = some (.bool false) from rfl); have y3 := fun o => ((Kp.refl (fun _ => False) w1).alloc o).cell q3 (fun h => h); have q4 := (hat.cell 24).trans (show _ = some (.bool true) from rfl); have y4 := fun o => ((Kp.refl (fun _ => False) w1).alloc o).cell q4 (fun h => h); have hs1 := hat.lt; (try (have zat : At w1 W0.heap.size [.bool false, .bool false, .bool false, .bool false, .bool false] := kq.at (At.new W0 [.bool false, .bool false, .bool false, .bool false, .bool false] 122) (fun h => h); have z0 := (zat.cell 0).trans (show _ = some (.bool false) from rfl); have z1 := (zat.cell 1).trans (show _ = some (.bool false) from rfl); have z2 := (zat.cell 2).trans (show _ = some (.bool false) from rfl); have z3 := (zat.cell 3).trans (show _ = some (.bool false) from rfl); have z4 := (zat.cell 4).trans (show _ = some (.bool false) from rfl); have zf := fun i => zat.frozen i; have ZAT := Lib.hid zat; clear zat)); have K1 := Lib.hid (And.intro hat kq); clear hat kq))
  all_goals (go_wp2_with fail; go_meet)
  all_goals (first | (exact ⟨_, rfl, by simpa using At.new w1 [.bool true, .bool false, .bool true, .bool false, .bool true] 122, (K1.out.2.at (H0.out.1.drew) (fun h => h)).alloc _, (H0.out.2.drew.trans K1.out.2).alloc _⟩) | (exact ⟨_, rfl, ((((ZAT.out.set 0 _).set 1 _).set 2 _).set 3 _).set 4 _, (((((K1.out.2.at (H0.out.1.alloc _) (fun h => h)).setOther hne _).setOther hne _).setOther hne _).setOther hne _).setOther hne _, ((((((H0.out.2.alloc _).drew.trans K1.out.2).setCell (fun h => by have := HLE.out; simp at h; omega) _).setCell (fun h => by have := HLE.out; simp at h; omega) _).setCell (fun h => by have := HLE.out; simp at h; omega) _).setCell (fun h => by have := HLE.out; simp at h; omega) _).setCell (fun h => by have := HLE.out; simp at h; omega) _⟩))
 case rest =>
  obtain ⟨g, rfl, hg, hbx, hk⟩ := hcut
  have p0 : wc.cell? ⟨g, 0, none⟩ = some (.bool true) := by rw [hg.cell]; rfl
  have p1 : wc.cell? ⟨g, 1, none⟩ = some (.bool false) := by rw [hg.cell]; rfl
  have p2 : wc.cell? ⟨g, 2, none⟩ = some (.bool true) := by rw [hg.cell]; rfl
  have p3 : wc.cell? ⟨g, 3, none⟩ = some (.bool false) := by rw [hg.cell]; rfl
  have p4 : wc.cell? ⟨g, 4, none⟩ = some (.bool true) := by rw [hg.cell]; rfl
  have x1 : wc.cell? ⟨b, 1, none⟩ = some (.int .i64 se) := by rw [hbx.cell]; rfl
  have x2 : wc.cell? ⟨b, 2, none⟩ = some (.int .i64 bo) := by rw [hbx.cell]; rfl
  have x3 : wc.cell? ⟨b, 3, none⟩ = some (.int .i64 sq) := by rw [hbx.cell]; rfl
  have x4 : wc.cell? ⟨b, 4, none⟩ = some (.int .i64 ac) := by rw [hbx.cell]; rfl
  have x5 : wc.cell? ⟨b, 5, none⟩ = some (.slice a n c) := by rw [hbx.cell]; rfl
  have HK := Lib.hid hk
  clear hg hbx hk c0 H0 HT hb0
  go_wp2
  all_goals
   go_ret
   first
   | exact ⟨ret_bool (dec_f (by unfold sayP; clear HK p0 p1 p2 p3 p4 x1 x2 x3 x4 x5; first | omega | (simp at *; done) | (simp at *; omega))), HK.out⟩
   | exact ⟨ret_bool (dec_t (by unfold sayP; clear HK p0 p1 p2 p3 p4 x1 x2 x3 x4 x5; first | omega | (simp at *; done) | (simp at *; omega))), HK.out⟩

set_option maxHeartbeats 2000000 in
theorem as_5 (se bo sq ac : Int) (a : Option Addr) (n c : Nat) (w : World) (hr : rangeP se bo sq ac) (hl : n ≤ 4611686018427387904) :
 Calls Tryz.prog 61 #[.agg #[.int .i64 5, .int .i64 se, .int .i64 bo, .int .i64 sq, .int .i64 ac, .slice a n c]] w fun e w' => e = .returned (.bool (decide (sayP 5 se bo sq ac n))) ∧ Kp (fun _ => False) w w' := by
 obtain ⟨⟨r1, r2⟩, ⟨r3, r4⟩, ⟨r5, r6⟩, r7, r8⟩ := hr
 go_enter Tryz.func61, Tryz.ntmps61
 go_wp2_with fail
 obtain ⟨b, hb⟩ : ∃ b, b = w.heap.size := ⟨_, rfl⟩
 rw [← hb]
 refine wp_world (fun W0 => At W0 b [.int .i64 5, .int .i64 se, .int .i64 bo, .int .i64 sq, .int .i64 ac, .slice a n c] ∧ Kp (fun _ => False) w W0) ⟨by rw [hb]; exact At.new w [.int .i64 5, .int .i64 se, .int .i64 bo, .int .i64 sq, .int .i64 ac, .slice a n c] _, (Kp.refl _ w).alloc _⟩ ?_
 rintro W0 ⟨hat0, hk0⟩
 have c0 : W0.cell? ⟨b, 0, none⟩ = some (.int .i64 5) := by rw [hat0.cell]; rfl
 have hb0 := hat0.lt
 have H0 := Lib.hid (And.intro hat0 hk0)
 have hT := types_any W0.drew
 have HT := Lib.hid hT
 clear hat0 hk0 hT hb
 go_upto_region 1 with fail
 go_cut [3] (fun s3 wx => ∃ g, s3 = .pointer (some ⟨g, 0, none⟩) ∧ At wx g [.bool false, .bool false, .bool false, .bool false, .bool true] ∧ At wx b [.int .i64 5, .int .i64 se, .int .i64 bo, .int .i64 sq, .int .i64 ac, .slice a n c] ∧ Kp (fun _ => False) w wx)
 case first =>
  have hne : W0.heap.size ≠ b := by omega
  have HLE := Lib.hid H0.out.2.size
  have c00 : W0.drew.cell? ⟨b, 0, none⟩ = some (.int .i64 5) := c0
  have ca := fun o => ((Kp.refl (fun _ => False) W0).alloc o).cell c0 (fun h => h)
  go_region_with ((go_at_call 75; refine (types_any _).mono ?_; rintro e w1 ⟨rfl, hat, kq⟩; simp only [heap_drew] at hat; (try simp only [World.size_alloc] at hat); have c0' : w1.cell? ⟨b, 0, none⟩ = some (.int .i64 5) := (kq.cell (by first | exact c0 | exact ca _) (fun h => h)); have ca' := fun o => ((Kp.refl (fun _ => False) w1).alloc o).cell c0' (fun h => h); have q0 := (hat.cell 25).trans (show _ = some (.bool false) from rfl); have y0 := fun o => ((Kp.refl (fun _ => False) w1).alloc o).cell q0 (fun h => h); have q1 := (hat.cell 26).trans (show _ = some (.bool false) from rfl); have y1 := fun o => ((Kp.refl (fun _ => False) w1).alloc o).cell q1 (fun h => h); have q2 := (hat.cell 27).trans (show _ = some (.bool false) from rfl); have y2 := fun o => ((Kp.refl (fun _ => False) w1).alloc o).cell q2 (fun h => h); have q3 := (hat.cell 28).trans (show _ = some (.bool false) from rfl); have y3 := fun o => ((Kp.refl (fun _ => False) w1).alloc o).cell q3 (fun h => h); have q4 := (hat.cell 29).trans (show _ = some (.bool true) from rfl); have y4 := fun o => ((Kp.refl (fun _ => False) w1).alloc o).cell q4 (fun h => h); have hs1 := hat.lt; (try (have zat : At w1 W0.heap.size [.bool false, .bool false, .bool false, .bool false, .bool false] := kq.at (At.new W0 [.bool false, .bool false, .bool false, .bool false, .bool false] 122) (fun h => h); have z0 := (zat.cell 0).trans (show _ = some (.bool false) from rfl); have z1 := (zat.cell 1).trans (show _ = some (.bool false) from rfl); have z2 := (zat.cell 2).trans (show _ = some (.bool false) from rfl); have z3 := (zat.cell 3).trans (show _ = some (.bool false) from rfl); have z4 := (zat.cell 4).trans (show _ = some (.bool false) from rfl); have zf := fun i => zat.frozen i; have ZAT := Lib.hid zat; clear zat)); have K1 := Lib.hid (And.intro hat kq); clear hat kq))
  all_goals (go_wp2_with fail; go_meet)
  all_goals (first | (exact ⟨_, rfl, by simpa using At.new w1 [.bool false, .bool false, .bool false, .bool false, .bool true] 122, (K1.out.2.at (H0.out.1.drew) (fun h => h)).alloc _, (H0.out.2.drew.trans K1.out.2).alloc _⟩) | (exact ⟨_, rfl, ((((ZAT.out.set 0 _).set 1 _).set 2 _).set 3 _).set 4 _, (((((K1.out.2.at (H0.out.1.alloc _) (fun h => h)).setOther hne _).setOther hne _).setOther hne _).setOther hne _).setOther hne _, ((((((H0.out.2.alloc _).drew.trans K1.out.2).setCell (fun h => by have := HLE.out; simp at h; omega) _).setCell (fun h => by have := HLE.out; simp at h; omega) _).setCell (fun h => by have := HLE.out; simp at h; omega) _).setCell (fun h => by have := HLE.out; simp at h; omega) _).setCell (fun h => by have := HLE.out; simp at h; omega) _⟩))
 case rest =>
  obtain ⟨g, rfl, hg, hbx, hk⟩ := hcut
  have p0 : wc.cell? ⟨g, 0, none⟩ = some (.bool false) := by rw [hg.cell]; rfl
  have p1 : wc.cell? ⟨g, 1, none⟩ = some (.bool false) := by rw [hg.cell]; rfl
  have p2 : wc.cell? ⟨g, 2, none⟩ = some (.bool false) := by rw [hg.cell]; rfl
  have p3 : wc.cell? ⟨g, 3, none⟩ = some (.bool false) := by rw [hg.cell]; rfl
  have p4 : wc.cell? ⟨g, 4, none⟩ = some (.bool true) := by rw [hg.cell]; rfl
  have x1 : wc.cell? ⟨b, 1, none⟩ = some (.int .i64 se) := by rw [hbx.cell]; rfl
  have x2 : wc.cell? ⟨b, 2, none⟩ = some (.int .i64 bo) := by rw [hbx.cell]; rfl
  have x3 : wc.cell? ⟨b, 3, none⟩ = some (.int .i64 sq) := by rw [hbx.cell]; rfl
  have x4 : wc.cell? ⟨b, 4, none⟩ = some (.int .i64 ac) := by rw [hbx.cell]; rfl
  have x5 : wc.cell? ⟨b, 5, none⟩ = some (.slice a n c) := by rw [hbx.cell]; rfl
  have HK := Lib.hid hk
  clear hg hbx hk c0 H0 HT hb0
  go_wp2
  all_goals
   go_ret
   first
   | exact ⟨ret_bool (dec_f (by unfold sayP; clear HK p0 p1 p2 p3 p4 x1 x2 x3 x4 x5; first | omega | (simp at *; done) | (simp at *; omega))), HK.out⟩
   | exact ⟨ret_bool (dec_t (by unfold sayP; clear HK p0 p1 p2 p3 p4 x1 x2 x3 x4 x5; first | omega | (simp at *; done) | (simp at *; omega))), HK.out⟩

theorem as_any (f : Fr) (a : Option Addr) (c : Nat) (w : World) (ht : typedP f.ty) (hr : rangeP f.se f.bo f.sq f.ac) (hl : f.bd.length ≤ 4611686018427387904) :
 Calls Tryz.prog 61 #[.agg (frA f a c)] w fun e w' => e = .returned (.bool (says f)) ∧ Kp (fun _ => False) w w' := by
 obtain ⟨ty, se, bo, sq, ac, bd⟩ := f
 unfold says
 dsimp only [frA] at *
 have h5 : ty = 1 ∨ ty = 2 ∨ ty = 3 ∨ ty = 4 ∨ ty = 5 := by unfold typedP at ht; omega
 rcases h5 with rfl | rfl | rfl | rfl | rfl
 · exact as_1 se bo sq ac a _ c w hr hl
 · exact as_2 se bo sq ac a _ c w hr hl
 · exact as_3 se bo sq ac a _ c w hr hl
 · exact as_4 se bo sq ac a _ c w hr hl
 · exact as_5 se bo sq ac a _ c w hr hl

set_option maxHeartbeats 2000000 in
theorem fcheck_type (f : Fr) (a : Option Addr) (c : Nat) (w : World) (ht : ¬ typedP f.ty) :
 Calls Tryz.prog 129 #[.agg (frA f a c)] w fun e w' => e = .returned (.int .i64 213) ∧ Kp (fun _ => False) w w' := by
 obtain ⟨ty, se, bo, sq, ac, bd⟩ := f
 have C := fun w => known_any ty w
 rw [decide_eq_false ht] at C
 have C' := Lib.hid C
 dsimp only [frA] at *
 clear C ht
 go_enter Tryz.func129, Tryz.ntmps129
 go_wp2_with (go_at_call 59; refine (C'.out _).mono ?_; rintro e w' ⟨rfl, rfl⟩)
 go_ret
 exact ⟨rfl, (Kp.refl _ w).alloc _⟩
set_option maxHeartbeats 2000000 in
theorem fcheck_typed (f : Fr) (a : Option Addr) (c : Nat) (w : World) (ht : typedP f.ty) (hl : f.bd.length ≤ 4611686018427387904) (hb : -9223372036854775808 ≤ f.se ∧ f.se ≤ 9223372036854775807) (hb2 : -9223372036854775808 ≤ f.bo ∧ f.bo ≤ 9223372036854775807) (hb3 : -9223372036854775808 ≤ f.sq ∧ f.sq ≤ 9223372036854775807) (hb4 : -9223372036854775808 ≤ f.ac ∧ f.ac ≤ 9223372036854775807) :
 Calls Tryz.prog 129 #[.agg (frA f a c)] w fun e w' => e = .returned (.int .i64 (errF f)) ∧ Kp (fun _ => False) w w' := by
 have C := fun w => known_any f.ty w
 rw [decide_eq_true ht] at C
 have C' := Lib.hid C
 have CA := Lib.hid (fun w hr => as_any f a c w ht hr hl)
 have HE := Lib.hid (show errF f = if ¬ rangeP f.se f.bo f.sq f.ac then 5 else if (1400 : Int) < f.bd.length then 3 else if says f = false then 2 else 0 by unfold errF; rw [if_neg (fun h => h ht)])
 clear C
 generalize errF f = er at *
 generalize says f = sy at *
 obtain ⟨ty, se, bo, sq, ac, bd⟩ := f
 dsimp only [frA] at *
 generalize bd.length = n at *
 have i0 : ∀ w, (Instr.index 169 (.agg #[.int .i64 se, .int .i64 bo, .int .i64 sq, .int .i64 ac]) (.int .i64 0)).run Tryz.prog w = .ok (.int .i64 se) w := fun _ => by kernel_rfl
 have i1 : ∀ w, (Instr.index 169 (.agg #[.int .i64 se, .int .i64 bo, .int .i64 sq, .int .i64 ac]) (.int .i64 1)).run Tryz.prog w = .ok (.int .i64 bo) w := fun _ => by kernel_rfl
 have i2 : ∀ w, (Instr.index 169 (.agg #[.int .i64 se, .int .i64 bo, .int .i64 sq, .int .i64 ac]) (.int .i64 2)).run Tryz.prog w = .ok (.int .i64 sq) w := fun _ => by kernel_rfl
 have i3 : ∀ w, (Instr.index 169 (.agg #[.int .i64 se, .int .i64 bo, .int .i64 sq, .int .i64 ac]) (.int .i64 3)).run Tryz.prog w = .ok (.int .i64 ac) w := fun _ => by kernel_rfl
 go_enter Tryz.func129, Tryz.ntmps129
 go_wp2_with (go_at_call 59; refine (C'.out _).mono ?_; rintro e w' ⟨rfl, rfl⟩)
 refine wp_world (fun wr => At wr w.heap.size [.int .i64 ty, .int .i64 se, .int .i64 bo, .int .i64 sq, .int .i64 ac, .slice a n c] ∧ Kp (fun _ => False) w wr) ⟨At.new w [.int .i64 ty, .int .i64 se, .int .i64 bo, .int .i64 sq, .int .i64 ac, .slice a n c] _, (Kp.refl _ w).alloc _⟩ ?_
 rintro w0 ⟨hat, hk⟩
 have HK := Lib.hid hk
 have x0 : w0.cell? ⟨w.heap.size, 0, none⟩ = some (.int .i64 ty) := by rw [hat.cell]; rfl
 have x1 : w0.cell? ⟨w.heap.size, 1, none⟩ = some (.int .i64 se) := by rw [hat.cell]; rfl
 have x2 : w0.cell? ⟨w.heap.size, 2, none⟩ = some (.int .i64 bo) := by rw [hat.cell]; rfl
 have x3 : w0.cell? ⟨w.heap.size, 3, none⟩ = some (.int .i64 sq) := by rw [hat.cell]; rfl
 have x4 : w0.cell? ⟨w.heap.size, 4, none⟩ = some (.int .i64 ac) := by rw [hat.cell]; rfl
 have x5 : w0.cell? ⟨w.heap.size, 5, none⟩ = some (.slice a n c) := by rw [hat.cell]; rfl
 clear hat hk hb hb2 hb3 hb4 C'
 go_loop [18] (fun i => ∃ k : Nat, k ≤ 4 ∧ i = .int .i64 k ∧ (1 ≤ k → 0 ≤ se ∧ se ≤ 2147483647) ∧ (2 ≤ k → 0 ≤ bo ∧ bo ≤ 2147483647) ∧ (3 ≤ k → 0 ≤ sq ∧ sq ≤ 2147483647) ∧ (4 ≤ k → 0 ≤ ac ∧ ac ≤ 2147483647)) (fun i => 4 - (intOf i).toNat)
 case atStart => exact ⟨0, by omega, rfl, fun h => by omega, fun h => by omega, fun h => by omega, fun h => by omega⟩
 case round =>
  obtain ⟨k, hk, rfl, k1, k2, k3, k4⟩ := hrel
  have key : ∀ x : Int, ¬ (0 ≤ x ∧ x ≤ 2147483647) → x < 0 ∨ (0 ≤ x ∧ 2147483647 < x) := fun x h => by omega
  match k, hk with
  | 0, _ =>
   by_cases h : 0 ≤ se ∧ se ≤ 2147483647
   · obtain ⟨h1, h2⟩ := h
     clear k1 k2 k3 k4 key
     go_wp2
     go_round
     case rel => exact ⟨1, by omega, rfl, fun _ => ⟨h1, h2⟩, fun h => by omega, fun h => by omega, fun h => by omega⟩
     case measure => simp [intOf]
   · have e : Hid (er = 5) := by show _ = _; rw [HE.out, if_pos (by unfold rangeP; omega)]
     rcases key se h with h1 | ⟨h1, h2⟩
     all_goals
      clear k1 k2 k3 k4 key h
      go_wp2
      go_ret
      exact ⟨ret_int e.out.symm, HK.out⟩
  | 1, _ =>
   by_cases h : 0 ≤ bo ∧ bo ≤ 2147483647
   · obtain ⟨h1, h2⟩ := h
     have K1 := Lib.hid (k1 (by omega))
     clear k1 k2 k3 k4 key
     go_wp2
     go_round
     case rel => exact ⟨2, by omega, rfl, fun _ => K1.out, fun _ => ⟨h1, h2⟩, fun h => by omega, fun h => by omega⟩
     case measure => simp [intOf]
   · have e : Hid (er = 5) := by show _ = _; rw [HE.out, if_pos (by unfold rangeP; omega)]
     rcases key bo h with h1 | ⟨h1, h2⟩
     all_goals
      clear k1 k2 k3 k4 key h
      go_wp2
      go_ret
      exact ⟨ret_int e.out.symm, HK.out⟩
  | 2, _ =>
   by_cases h : 0 ≤ sq ∧ sq ≤ 2147483647
   · obtain ⟨h1, h2⟩ := h
     have K1 := Lib.hid (And.intro (k1 (by omega)) (k2 (by omega)))
     clear k1 k2 k3 k4 key
     go_wp2
     go_round
     case rel => exact ⟨3, by omega, rfl, fun _ => K1.out.1, fun _ => K1.out.2, fun _ => ⟨h1, h2⟩, fun h => by omega⟩
     case measure => simp [intOf]
   · have e : Hid (er = 5) := by show _ = _; rw [HE.out, if_pos (by unfold rangeP; omega)]
     rcases key sq h with h1 | ⟨h1, h2⟩
     all_goals
      clear k1 k2 k3 k4 key h
      go_wp2
      go_ret
      exact ⟨ret_int e.out.symm, HK.out⟩
  | 3, _ =>
   by_cases h : 0 ≤ ac ∧ ac ≤ 2147483647
   · obtain ⟨h1, h2⟩ := h
     have K1 := Lib.hid (And.intro (k1 (by omega)) (And.intro (k2 (by omega)) (k3 (by omega))))
     clear k1 k2 k3 k4 key
     go_wp2
     go_round
     case rel => exact ⟨4, by omega, rfl, fun _ => K1.out.1, fun _ => K1.out.2.1, fun _ => K1.out.2.2, fun _ => ⟨h1, h2⟩⟩
     case measure => simp [intOf]
   · have e : Hid (er = 5) := by show _ = _; rw [HE.out, if_pos (by unfold rangeP; omega)]
     rcases key ac h with h1 | ⟨h1, h2⟩
     all_goals
      clear k1 k2 k3 k4 key h
      go_wp2
      go_ret
      exact ⟨ret_int e.out.symm, HK.out⟩
  | 4, _ =>
   have hr : rangeP se bo sq ac := ⟨k1 (by omega), k2 (by omega), k3 (by omega), k4 (by omega)⟩
   have C := Lib.hid (CA.out w0 hr)
   have he := HE.out
   rw [if_neg (fun h => h hr)] at he
   have HE2 := Lib.hid he
   clear k1 k2 k3 k4 key he HE hr CA
   by_cases h : 1400 < n
   · have e : Hid (er = 3) := by show _ = _; rw [HE2.out, if_pos (by omega)]
     clear HE2
     go_wp2
     go_ret
     exact ⟨ret_int e.out.symm, HK.out⟩
   · have e : Hid (er = if sy = false then 2 else 0) := by show _ = _; rw [HE2.out, if_neg (by omega)]
     clear HE2
     cases sy with
     | true =>
      have e' : Hid (er = 0) := by show _ = _; rw [e.out]; rfl
      clear e
      go_wp2_with (go_at_call 61; refine C.out.mono ?_; rintro e w' ⟨rfl, hk⟩)
      go_ret
      exact ⟨ret_int e'.out.symm, HK.out.trans hk⟩
     | false =>
      have e' : Hid (er = 2) := by show _ = _; rw [e.out]; rfl
      clear e
      go_wp2_with (go_at_call 61; refine C.out.mono ?_; rintro e w' ⟨rfl, hk⟩)
      go_ret
      exact ⟨ret_int e'.out.symm, HK.out.trans hk⟩
theorem fcheck_any (f : Fr) (a : Option Addr) (c : Nat) (w : World) (hl : f.bd.length ≤ 4611686018427387904) (hb : -9223372036854775808 ≤ f.se ∧ f.se ≤ 9223372036854775807) (hb2 : -9223372036854775808 ≤ f.bo ∧ f.bo ≤ 9223372036854775807) (hb3 : -9223372036854775808 ≤ f.sq ∧ f.sq ≤ 9223372036854775807) (hb4 : -9223372036854775808 ≤ f.ac ∧ f.ac ≤ 9223372036854775807) :
 Calls Tryz.prog 129 #[.agg (frA f a c)] w fun e w' => e = .returned (.int .i64 (errF f)) ∧ Kp (fun _ => False) w w' := by
 by_cases ht : typedP f.ty
 · exact fcheck_typed f a c w ht hl hb hb2 hb3 hb4
 · have e : errF f = 213 := by unfold errF; rw [if_pos ht]
   rw [e]
   exact fcheck_type f a c w ht
end Go.Proofs.YtokembhfebnjpaaGreat
