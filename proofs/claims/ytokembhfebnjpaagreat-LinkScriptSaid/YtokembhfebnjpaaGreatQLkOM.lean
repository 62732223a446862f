/- Chapter 15: the statement's act: Send. (Written by wip/lko.py.) -/
import Derived.Test.YtokembhfebnjpaaGreatQLkL
import Derived.Test.YtokembhfebnjpaaGreatQLkTM
import Derived.Deep.DeepCutAuto
namespace Go.Proofs.YtokembhfebnjpaaGreat
set_option maxRecDepth 20000
open Go.RowKit Flt
set_option linter.unusedVariables false
set_option linter.unusedSimpArgs false
def sqA (q : Sq) : Array Value := #[.int .i64 q.kd, .int .i64 q.now, .int .i64 q.f.ty, .int .i64 q.f.se, .int .i64 q.f.bo, .int .i64 q.f.sq, .int .i64 q.f.ac, .slice q.fa q.f.bd.length q.fc, .slice q.a q.body.length q.cap]
theorem act_box (w : World) (vs : List Value) : ∃ bx w1, bx = w.heap.size ∧ w1 = w.alloc (.cells vs.toArray 36) ∧ Kp (fun _ => False) w w1 ∧ At w1 bx vs := ⟨_, _, rfl, rfl, (Kp.refl _ w).alloc _, At.new w _ _⟩
theorem Left.pre {w W W1 W' : World} {ag : Bool} {p r I : Nat} {F : Nat → Prop} (k : Kp (fun _ => False) W W1) (h : Left w W1 ag p r I F W') : Left w W ag p r I F W' := by
 obtain ⟨F', hj, hm⟩ := h
 exact ⟨F', hj, Mv.pre k hm⟩
theorem Left.post {w W W1 W' : World} {ag : Bool} {p r I : Nat} {F : Nat → Prop} (h : Left w W ag p r I F W1) (k : Kp (fun _ => False) W1 W') : Left w W ag p r I F W' := by
 obtain ⟨F', hj, hm⟩ := h
 exact ⟨F', hj.kp0 k, hm.post k⟩
theorem rdb_off {w W : World} {ag : Bool} {p r I : Nat} {F : Nat → Prop} (h : J w W ag p r I F) {a : Option Addr} {l : List Int} (hr : RdB w a l) : l ≠ [] → ∀ y, a = some y → ¬ F y.block := fun hl y hy hF => by
 obtain ⟨b, off, ha, hc⟩ := hr.cell 0 (by cases l; exact absurd rfl hl; simp)
 rw [ha] at hy
 cases hy
 have h1 := World.block_lt_of_cell? w _ hc
 have h2 := h.ge _ hF
 have h1 : b < w.heap.size := h1
 have h2 : w.heap.size ≤ b := h2
 omega
section
variable {w W : World} {ag : Bool} {p r I : Nat} {F : Nat → Prop}
set_option maxHeartbeats 6000000 in
theorem act_send (h : J w W ag p r I F) (hI : I ≤ 1000) (q : Sq) (hq : SqR w q) (hb : q.body.length ≤ 6000 ∧ q.f.bd.length ≤ 6000) (hkd : q.kd = 0 ∨ q.kd = 1 ∨ q.kd = 2) : Calls Tryz.prog 9 #[.pointer (some ⟨p, 0, none⟩), .pointer (some ⟨r, 0, none⟩), .agg (sqA q)] W fun e W' => e = .returned (.bool true) ∧ Left w W ag p r I F W' := by
 obtain ⟨kd, now, ⟨ty, se, bo, sq, ac, bd⟩, fa, fc, pa, pc, body⟩ := q
 dsimp only at hkd hb
 skip
 obtain ⟨⟨hfr, hfc, hfm⟩, hr, hc, hcm⟩ := hq
 dsimp only at hfr hfc hfm hr hc hcm
 obtain ⟨hb1, hb2⟩ := hb
 dsimp only [sqA]
 have off := rdb_off h hr
 have hrW : RdB W pa body := hr.kp h.kpw (fun _ _ h => h)
 have hfW : RdB W fa bd := hfr.kp h.kpw (fun _ _ h => h)
 obtain ⟨m, hm⟩ : ∃ m, m = body.length := ⟨_, rfl⟩
 obtain ⟨nb, hnb⟩ : ∃ nb, nb = bd.length := ⟨_, rfl⟩
 rw [← hm] at hb1 hc
 rw [← hnb] at hb2 hfc
 rw [← hm, ← hnb]
 obtain ⟨bx, w1, hbx, hw1, k1, ab⟩ := act_box W [.int .i64 kd, .int .i64 now, .int .i64 ty, .int .i64 se, .int .i64 bo, .int .i64 sq, .int .i64 ac, .slice fa nb fc, .slice pa m pc]
 have d0 : w1.cell? ⟨bx, 0, none⟩ = some (.int .i64 kd) := ab.cell 0
 have d1 : w1.cell? ⟨bx, 1, none⟩ = some (.int .i64 now) := ab.cell 1
 have d2 : w1.cell? ⟨bx, 2, none⟩ = some (.int .i64 ty) := ab.cell 2
 have d3 : w1.cell? ⟨bx, 3, none⟩ = some (.int .i64 se) := ab.cell 3
 have d4 : w1.cell? ⟨bx, 4, none⟩ = some (.int .i64 bo) := ab.cell 4
 have d5 : w1.cell? ⟨bx, 5, none⟩ = some (.int .i64 sq) := ab.cell 5
 have d6 : w1.cell? ⟨bx, 6, none⟩ = some (.int .i64 ac) := ab.cell 6
 have d7 : w1.cell? ⟨bx, 7, none⟩ = some (.slice fa nb fc) := ab.cell 7
 have d8 : w1.cell? ⟨bx, 8, none⟩ = some (.slice pa m pc) := ab.cell 8
 have hbl : bx < w1.heap.size := ab.lt
 have hbF : ¬ F bx := fun hF => by have := h.lt bx hF; omega
 have HB := Lib.hid (And.intro hbx (And.intro h k1))
 have H := Lib.hid h
 have HM := Lib.hid (And.intro hm (And.intro off (hrW.kp k1 (fun _ _ h => h))))
 have hbd := hr.bd
 have CL := Lib.hid (lent_m pa m pc body hm w1 HM.out.2.2 (by omega))
 clear h hr hrW hfr hfW off hm hnb k1 hcm hfm
 go_enter Tryz.func9, Tryz.ntmps9
 go_upto_region 1 with fail
 rw [← hw1, ← hbx]
 clear hw1 hbx ab
 rcases hkd with hkd | hkd | hkd
 all_goals
  subst hkd
  go_wp2_with fail
  go_at_call 14
  refine CL.out.mono ?_
  rintro e1 w2 ⟨rfl, hg, k2⟩
  obtain ⟨g1, hg1⟩ : ∃ g, g = w1.heap.size := ⟨_, rfl⟩
  rw [← hg1] at hg ⊢
  have d8 := k2.cell d8 (fun h => h)
  have hbl2 : bx < w2.heap.size := Nat.lt_of_lt_of_le hbl k2.size
  have hg1l : g1 < w2.heap.size := hg.lt
  have HK := Lib.hid (HB.out.2.2.trans k2)
  have hgl : At w2 g1 ((body ++ marks body.length).map (Value.int .u8)) := by rw [← HM.out.1]; exact hg
  have hrb := RdB.lent' hgl hbd (by have := HM.out.1; omega)
  have hgF : ¬ F g1 := fun q => by have q1 := H.out.lt g1 q; have q2 := HB.out.2.2.size; omega
  have HG := Lib.hid (And.intro hg (And.intro hg1 hgF))
  replace HM := Lib.hid (And.intro HM.out.1 (And.intro HM.out.2.1 (HM.out.2.2.kp k2 (fun _ _ h => h))))
  have CSD := fun w' (k : Kp (fun _ => False) w2 w') => send_J ((H.out.kp0 HK.out).kp0 k) hI (m + 3) (hrb.kp k (fun _ _ h => h)) pc (HM.out.2.2.kp k (fun _ _ h => h)) HM.out.2.1 (by have := HM.out.1; omega)
  rw [← HM.out.1] at CSD
  have CSD := Lib.hid CSD
  clear hg hgl hrb k2 hg1 CL d0 d1 d2 d3 d4 d5 d6 d7
  go_upto_region 6 with fail
  refine region_L (S := fun w' => Kp (fun k => F k ∨ w2.heap.size ≤ k) w2 w') [] rfl ?_
  have hSd : ∀ (w' : World) (n' : Nat), Kp (fun k => F k ∨ w2.heap.size ≤ k) w2 w' → Kp (fun k => F k ∨ w2.heap.size ≤ k) w2 (w'.drewN n') := fun w' n' h => h.drewN n'
  have hS0 : Kp (fun k => F k ∨ w2.heap.size ≤ k) w2 w2.drew := (Kp.refl _ w2).drew
  refine anyL_world (fun w' => Kp (fun k => F k ∨ w2.heap.size ≤ k) w2 w' ∧ Kp (fun _ => False) w2 w') ⟨hS0, (Kp.refl _ w2).drew⟩ ?_
  clear hS0
  rintro z0 ⟨kz0, kq0⟩
  refine tF 0 21 (.pointer (some ⟨p, 0, none⟩)) rfl rfl hSd (fun _ => kz0) ?_
  try simp only [sC]
  refine tF 1 22 (.slice (some ⟨g1, 0, none⟩) m (m + 3)) rfl rfl hSd (fun _ => kz0) ?_
  try simp only [sC]
  refine tF 3 24 (.pointer (some ⟨r, 0, none⟩)) rfl rfl hSd (fun _ => kz0) ?_
  try simp only [sC]
  refine tF 4 25 (.pointer (some ⟨bx, 8, none⟩)) rfl rfl hSd (fun _ => kz0) ?_
  try simp only [sC]
  refine tD 5 26 (.slice pa m pc) rfl rfl hSd (.inl (.inl ⟨rfl, fun w' hS => by have h := hS.cell d8 (fun q => q.elim hbF (fun q => absurd hbl2 (Nat.not_lt.2 q))); go_simp⟩)) kz0 ?_
  try simp only [sC]
  refine tA 2 ?_
  intro n2
  refine wpOp_of rfl rfl ?_
  go_simp
  refine Calls.mono (CSD.out (z0.drewN n2) (kq0.drewN n2)) ?_
  rintro e z1 ⟨k, rfl, kF, C2⟩
  try dsimp only
  rw [← HM.out.1] at C2
  have kz1 : Kp (fun k => F k ∨ w2.heap.size ≤ k) w2 z1 := ((kq0.drewN n2).mono (fun _ _ h => h.elim)).trans (kF.mono (fun _ _ e => .inl e))
  refine ⟨fun _ => kz1, ?_⟩
  try simp only [sC]
  refine tA 6 ?_
  intro n6
  refine wpOp_of rfl rfl ?_
  go_simp
  refine Calls.mono (C2 (z1.drewN n6) ((Kp.refl _ z1).drewN n6)) ?_
  rintro e z2 ⟨rfl, F', hj, hm'⟩
  try dsimp only
  have hm3 : Mv F F' w2 z2 := Mv.pre (kq0.drewN n2) hm'
  have kz2 : Kp (fun k => F k ∨ w2.heap.size ≤ k) w2 z2 := hm3.kp.mono (fun _ _ e => .inl e)
  refine ⟨fun _ => kz2, ?_⟩
  try simp only [sC]
  refine anyL_takeF (i := 7) (d := 28) (v := (.bool true)) rfl rfl (by kernel_rfl) (by kernel_rfl) (by kernel_rfl) (fun _ _ _ h => h) hSd (by kernel_rfl) (.inl (.inl ⟨rfl, fun w' hS => by go_simp⟩)) (fun _ => kz2) ?_
  try simp only [sC]
  refine tF 8 29 (.bool true) rfl rfl hSd (fun _ => kz2) ?_
  try simp only [sC]
  refine tF 9 30 (.slice (some ⟨g1, 0, none⟩) m (m + 3)) rfl rfl hSd (fun _ => kz2) ?_
  try simp only [sC]
  refine tF 10 31 (.pointer (some ⟨bx, 8, none⟩)) rfl rfl hSd (fun _ => kz2) ?_
  try simp only [sC]
  refine tD 11 32 (.slice pa m pc) rfl rfl hSd (.inl (.inl ⟨rfl, fun w' hS => by have h := hS.cell d8 (fun q => q.elim hbF (fun q => absurd hbl2 (Nat.not_lt.2 q))); go_simp⟩)) kz2 ?_
  try simp only [sC]
  refine tA 12 ?_
  intro n12
  refine wpOp_of rfl rfl ?_
  go_simp
  refine Calls.mono (kept_m g1 pa m pc body HM.out.1 (z2.drewN n12) (((Kp.refl (fun _ => False) z2).drewN n12).at (hm3.kp.at HG.out.1 HG.out.2.2) (fun h => h)) ((HM.out.2.2.kpn hm3.kp (fun q y hy e => HM.out.2.1 q y hy e)).kp ((Kp.refl (fun _ => False) z2).drewN n12) (fun _ _ h => h)) (by omega)) ?_
  rintro e z3 ⟨rfl, k12⟩
  try dsimp only
  have k23 : Kp (fun _ => False) z2 z3 := ((Kp.refl (fun _ => False) z2).drewN n12).trans k12
  have kz3 : Kp (fun k => F k ∨ w2.heap.size ≤ k) w2 z3 := kz2.trans (k23.mono (fun _ _ h => h.elim))
  refine ⟨fun _ => kz3, ?_⟩
  try simp only [sC]
  refine tF 13 34 (.bool true) rfl rfl hSd (fun _ => kz3) ?_
  try simp only [sC]
  refine tF 14 8 (.bool true) rfl rfl hSd (fun _ => kz3) ?_
  try simp only [sC]
  refine anyL_done (by kernel_rfl) (fun nn => ?_) _
  have k3n : Kp (fun _ => False) z2 (z3.drewN nn) := k23.drewN nn
  generalize z3.drewN nn = z4 at *
  have CO := Lib.hid (over_m g1 m body HM.out.1 z4 (k3n.at (hm3.kp.at HG.out.1 HG.out.2.2) (fun h => h)) hbd (by omega))
  have HJ := Lib.hid (And.intro hj (And.intro hm3 k3n))
  clear hSd kz0 kq0 kz1 kz2 kz3 kF C2 hj hm' hm3 k12 k23 k3n CSD d8
  go_wp2_with fail
  go_at_call 18
  refine CO.out.mono ?_
  rintro e6 w6 ⟨rfl, k6⟩
  have K6 := Lib.hid k6
  clear k6 CO
  go_wp2_with fail
  go_ret
  exact ⟨rfl, left_over (vs := []) (n := 0) H.out HK.out ⟨by have := HG.out.2.1; have := HB.out.2.2.size; omega, hg1l⟩ HJ.out.1 HJ.out.2.1 (fun k ⟨j, hj, _⟩ => by omega) (fun k ⟨j, hj, _⟩ => by omega) HJ.out.2.2 K6.out (Kp.refl _ _)⟩
end
section
variable {w W : World} {ag : Bool} {p r I : Nat} {F : Nat → Prop}
set_option maxHeartbeats 8000000 in
theorem act_frame (h : J w W ag p r I F) (hI : I ≤ 1000) (q : Sq) (hq : SqR w q) (hb : q.body.length ≤ 6000 ∧ q.f.bd.length ≤ 6000) (hkd : q.kd = 3 ∨ q.kd = 4 ∨ q.kd = 5 ∨ q.kd = 6) : Calls Tryz.prog 9 #[.pointer (some ⟨p, 0, none⟩), .pointer (some ⟨r, 0, none⟩), .agg (sqA q)] W fun e W' => e = .returned (.bool true) ∧ Left w W ag p r I F W' := by
 obtain ⟨kd, now, ⟨ty, se, bo, sq, ac, bd⟩, fa, fc, pa, pc, body⟩ := q
 dsimp only at hkd hb
 skip
 obtain ⟨⟨hfr, hfc, hfm⟩, hr, hc, hcm⟩ := hq
 dsimp only at hfr hfc hfm hr hc hcm
 obtain ⟨hb1, hb2⟩ := hb
 dsimp only [sqA]
 have off := rdb_off h hr
 have hrW : RdB W pa body := hr.kp h.kpw (fun _ _ h => h)
 have hfW : RdB W fa bd := hfr.kp h.kpw (fun _ _ h => h)
 obtain ⟨m, hm⟩ : ∃ m, m = body.length := ⟨_, rfl⟩
 obtain ⟨nb, hnb⟩ : ∃ nb, nb = bd.length := ⟨_, rfl⟩
 rw [← hm] at hb1 hc
 rw [← hnb] at hb2 hfc
 rw [← hm, ← hnb]
 obtain ⟨bx, w1, hbx, hw1, k1, ab⟩ := act_box W [.int .i64 kd, .int .i64 now, .int .i64 ty, .int .i64 se, .int .i64 bo, .int .i64 sq, .int .i64 ac, .slice fa nb fc, .slice pa m pc]
 have d0 : w1.cell? ⟨bx, 0, none⟩ = some (.int .i64 kd) := ab.cell 0
 have d1 : w1.cell? ⟨bx, 1, none⟩ = some (.int .i64 now) := ab.cell 1
 have d2 : w1.cell? ⟨bx, 2, none⟩ = some (.int .i64 ty) := ab.cell 2
 have d3 : w1.cell? ⟨bx, 3, none⟩ = some (.int .i64 se) := ab.cell 3
 have d4 : w1.cell? ⟨bx, 4, none⟩ = some (.int .i64 bo) := ab.cell 4
 have d5 : w1.cell? ⟨bx, 5, none⟩ = some (.int .i64 sq) := ab.cell 5
 have d6 : w1.cell? ⟨bx, 6, none⟩ = some (.int .i64 ac) := ab.cell 6
 have d7 : w1.cell? ⟨bx, 7, none⟩ = some (.slice fa nb fc) := ab.cell 7
 have d8 : w1.cell? ⟨bx, 8, none⟩ = some (.slice pa m pc) := ab.cell 8
 have hbl : bx < w1.heap.size := ab.lt
 have hbF : ¬ F bx := fun hF => by have := h.lt bx hF; omega
 have HB := Lib.hid (And.intro hbx (And.intro h k1))
 have H := Lib.hid h
 have HNB := Lib.hid (show bd.length ≤ 6000 by omega)
 have CY := fun w' (k : Kp (fun _ => False) w1 w') => rlay_any ⟨ty, se, bo, sq, ac, bd⟩ fa fc w' (hfW.kp (k1.trans k) (fun _ _ h => h)) (by show bd.length ≤ fc; omega) (by show bd.length ≤ 1000000; omega)
 dsimp only [frA] at CY
 rw [← hnb] at CY
 have CY := Lib.hid CY
 clear h hr hrW hfr hfW off hm hnb k1 hc hcm hfc hfm
 go_enter Tryz.func9, Tryz.ntmps9
 go_upto_region 1 with fail
 rw [← hw1, ← hbx]
 clear hw1 hbx ab
 rcases hkd with hkd | hkd | hkd | hkd
 all_goals
  subst hkd
  go_upto_region 13 with fail
  refine region_L (S := fun w' => Kp (fun k => F k ∨ w1.heap.size ≤ k) w1 w') [] rfl ?_
  have hSd : ∀ (w' : World) (n' : Nat), Kp (fun k => F k ∨ w1.heap.size ≤ k) w1 w' → Kp (fun k => F k ∨ w1.heap.size ≤ k) w1 (w'.drewN n') := fun w' n' h => h.drewN n'
  have hS0 : Kp (fun k => F k ∨ w1.heap.size ≤ k) w1 w1.drew := (Kp.refl _ w1).drew
  refine anyL_world (fun w' => Kp (fun k => F k ∨ w1.heap.size ≤ k) w1 w' ∧ Kp (fun _ => False) w1 w') ⟨hS0, (Kp.refl _ w1).drew⟩ ?_
  clear hS0
  rintro z0 ⟨kz0, kq0⟩
  refine tF 0 43 (.pointer (some ⟨p, 0, none⟩)) rfl rfl hSd (fun _ => kz0) ?_
  try simp only [sC]
  refine tF 1 44 (.pointer (some ⟨r, 0, none⟩)) rfl rfl hSd (fun _ => kz0) ?_
  try simp only [sC]
  refine tF 2 45 (.pointer (some ⟨bx, 2, none⟩)) rfl rfl hSd (fun _ => kz0) ?_
  try simp only [sC]
  refine tD 3 46 (.agg #[.int .i64 ty, .int .i64 se, .int .i64 bo, .int .i64 sq, .int .i64 ac, .slice fa nb fc]) rfl rfl hSd (.inl (.inl ⟨rfl, fun w' hS => by have h0 := hS.cell d2 (fun q => q.elim hbF (fun q => absurd hbl (Nat.not_lt.2 q))); have h1 := hS.cell d3 (fun q => q.elim hbF (fun q => absurd hbl (Nat.not_lt.2 q))); have h2 := hS.cell d4 (fun q => q.elim hbF (fun q => absurd hbl (Nat.not_lt.2 q))); have h3 := hS.cell d5 (fun q => q.elim hbF (fun q => absurd hbl (Nat.not_lt.2 q))); have h4 := hS.cell d6 (fun q => q.elim hbF (fun q => absurd hbl (Nat.not_lt.2 q))); have h5 := hS.cell d7 (fun q => q.elim hbF (fun q => absurd hbl (Nat.not_lt.2 q))); go_simp⟩)) kz0 ?_
  try simp only [sC]
  refine tF 5 48 (.pointer (some ⟨bx, 1, none⟩)) rfl rfl hSd (fun _ => kz0) ?_
  try simp only [sC]
  refine tD 6 49 (.int .i64 now) rfl rfl hSd (.inl (.inl ⟨rfl, fun w' hS => by have h := hS.cell d1 (fun q => q.elim hbF (fun q => absurd hbl (Nat.not_lt.2 q))); go_simp⟩)) kz0 ?_
  try simp only [sC]
  refine tA 4 ?_
  intro n4
  refine wpOp_of rfl rfl ?_
  go_simp
  refine Calls.mono (CY.out (z0.drewN n4) (kq0.drewN n4)) ?_
  rintro e z1 ⟨u, rfl, hu, hug, k4⟩
  try dsimp only
  have kq4 : Kp (fun _ => False) w1 z1 := (kq0.drewN n4).trans k4
  obtain ⟨ua, uc, eu, hru, huc, hucm⟩ := hu.form3
  obtain ⟨ul, hul⟩ : ∃ n, n = (layF ⟨ty, se, bo, sq, ac, bd⟩).length := ⟨_, rfl⟩
  rw [← hul] at eu huc
  subst eu
  have HUL := Lib.hid hul
  clear hul
  have kz1 : Kp (fun k => F k ∨ w1.heap.size ≤ k) w1 z1 := kq4.mono (fun _ _ h => h.elim)
  refine ⟨fun _ => kz1, ?_⟩
  try simp only [sC]
  refine tA 7 ?_
  intro n7
  refine wpOp_of rfl rfl ?_
  go_simp
  refine Calls.mono (receive_any (HB.out.2.1.kp0 ((HB.out.2.2.trans kq4).drewN n7)) hI now ul uc HUL.out (hru.kp ((Kp.refl (fun _ => False) z1).drewN n7) (fun _ _ h => h)) huc hucm (fun _ y hy hF => by have q1 := hug y.block (by rw [hy]; rfl); have q2 := HB.out.2.1.lt _ hF; have q3 := HB.out.2.2.size; have q4 := kq0.size; have q5 : z0.heap.size ≤ y.block := q1; omega) (by rw [HUL.out, layF_len]; have := HNB.out; dsimp only; omega)) ?_
  rintro e z2 ⟨rfl, hleft⟩
  try dsimp only
  have hL7 : Left w W ag p r I F z2 := Left.pre ((HB.out.2.2.trans kq4).drewN n7) hleft
  have kz2 : Kp (fun k => F k ∨ w1.heap.size ≤ k) w1 z2 := (kq4.mono (fun _ _ h => h.elim)).trans (by obtain ⟨F', _, hm'⟩ := hleft; exact (((Kp.refl (fun _ => False) z1).drewN n7).mono (fun _ _ h => h.elim)).trans (hm'.kp.mono (fun _ _ e => .inl e)))
  refine ⟨fun _ => kz2, ?_⟩
  try simp only [sC]
  refine tF 8 6 (.bool true) rfl rfl hSd (fun _ => kz2) ?_
  try simp only [sC]
  refine anyL_done (by kernel_rfl) (fun nn => ?_) _
  go_wp2_with fail
  go_ret
  exact ⟨rfl, hL7.post ((Kp.refl _ z2).drewN nn)⟩
set_option maxHeartbeats 2000000 in
theorem act_10 (h : J w W ag p r I F) (hI : I ≤ 1000) (q : Sq) (hq : SqR w q) (hb : q.body.length ≤ 6000 ∧ q.f.bd.length ≤ 6000) (hkd : q.kd = 10) : Calls Tryz.prog 9 #[.pointer (some ⟨p, 0, none⟩), .pointer (some ⟨r, 0, none⟩), .agg (sqA q)] W fun e W' => e = .returned (.bool true) ∧ Left w W ag p r I F W' := by
 obtain ⟨kd, now, ⟨ty, se, bo, sq, ac, bd⟩, fa, fc, pa, pc, body⟩ := q
 dsimp only at hkd hb
 subst hkd
 obtain ⟨⟨hfr, hfc, hfm⟩, hr, hc, hcm⟩ := hq
 dsimp only at hfr hfc hfm hr hc hcm
 obtain ⟨hb1, hb2⟩ := hb
 dsimp only [sqA]
 have off := rdb_off h hr
 have hrW : RdB W pa body := hr.kp h.kpw (fun _ _ h => h)
 have hfW : RdB W fa bd := hfr.kp h.kpw (fun _ _ h => h)
 obtain ⟨m, hm⟩ : ∃ m, m = body.length := ⟨_, rfl⟩
 obtain ⟨nb, hnb⟩ : ∃ nb, nb = bd.length := ⟨_, rfl⟩
 rw [← hm] at hb1 hc
 rw [← hnb] at hb2 hfc
 rw [← hm, ← hnb]
 obtain ⟨bx, w1, hbx, hw1, k1, ab⟩ := act_box W [.int .i64 10, .int .i64 now, .int .i64 ty, .int .i64 se, .int .i64 bo, .int .i64 sq, .int .i64 ac, .slice fa nb fc, .slice pa m pc]
 have d0 : w1.cell? ⟨bx, 0, none⟩ = some (.int .i64 10) := ab.cell 0
 have d1 : w1.cell? ⟨bx, 1, none⟩ = some (.int .i64 now) := ab.cell 1
 have d2 : w1.cell? ⟨bx, 2, none⟩ = some (.int .i64 ty) := ab.cell 2
 have d3 : w1.cell? ⟨bx, 3, none⟩ = some (.int .i64 se) := ab.cell 3
 have d4 : w1.cell? ⟨bx, 4, none⟩ = some (.int .i64 bo) := ab.cell 4
 have d5 : w1.cell? ⟨bx, 5, none⟩ = some (.int .i64 sq) := ab.cell 5
 have d6 : w1.cell? ⟨bx, 6, none⟩ = some (.int .i64 ac) := ab.cell 6
 have d7 : w1.cell? ⟨bx, 7, none⟩ = some (.slice fa nb fc) := ab.cell 7
 have d8 : w1.cell? ⟨bx, 8, none⟩ = some (.slice pa m pc) := ab.cell 8
 have hbl : bx < w1.heap.size := ab.lt
 have hbF : ¬ F bx := fun hF => by have := h.lt bx hF; omega
 have HB := Lib.hid (And.intro hbx (And.intro h k1))
 have CR := Lib.hid (receive_any (h.kp0 k1) hI now m pc hm (hrW.kp k1 (fun _ _ h => h)) hc (by unfold maxLen; omega) off (by omega))
 clear h hr hrW hfr hfW off hm hnb k1 hc hcm hfc hfm
 go_enter Tryz.func9, Tryz.ntmps9
 go_upto_region 1 with fail
 rw [← hw1, ← hbx]
 clear hw1 hbx ab
 go_wp2_with fail
 go_at_call 19
 refine CR.out.mono ?_
 rintro e1 w2 ⟨rfl, hl2⟩
 have HL := Lib.hid hl2
 clear hl2
 go_wp2_with fail
 go_ret
 exact ⟨rfl, Left.pre HB.out.2.2 HL.out⟩
end
section
variable {w W : World} {ag : Bool} {p r I : Nat} {F : Nat → Prop}
set_option maxHeartbeats 6000000 in
theorem act_tick (h : J w W ag p r I F) (hI : I ≤ 1000) (q : Sq) (hq : SqR w q) (hb : q.body.length ≤ 6000 ∧ q.f.bd.length ≤ 6000) (hkd : q.kd = 7 ∨ q.kd = 8 ∨ q.kd = 9) : Calls Tryz.prog 9 #[.pointer (some ⟨p, 0, none⟩), .pointer (some ⟨r, 0, none⟩), .agg (sqA q)] W fun e W' => e = .returned (.bool true) ∧ Left w W ag p r I F W' := by
 obtain ⟨kd, now, ⟨ty, se, bo, sq, ac, bd⟩, fa, fc, pa, pc, body⟩ := q
 dsimp only at hkd hb
 skip
 obtain ⟨⟨hfr, hfc, hfm⟩, hr, hc, hcm⟩ := hq
 dsimp only at hfr hfc hfm hr hc hcm
 obtain ⟨hb1, hb2⟩ := hb
 dsimp only [sqA]
 have off := rdb_off h hr
 have hrW : RdB W pa body := hr.kp h.kpw (fun _ _ h => h)
 have hfW : RdB W fa bd := hfr.kp h.kpw (fun _ _ h => h)
 obtain ⟨m, hm⟩ : ∃ m, m = body.length := ⟨_, rfl⟩
 obtain ⟨nb, hnb⟩ : ∃ nb, nb = bd.length := ⟨_, rfl⟩
 rw [← hm] at hb1 hc
 rw [← hnb] at hb2 hfc
 rw [← hm, ← hnb]
 obtain ⟨bx, w1, hbx, hw1, k1, ab⟩ := act_box W [.int .i64 kd, .int .i64 now, .int .i64 ty, .int .i64 se, .int .i64 bo, .int .i64 sq, .int .i64 ac, .slice fa nb fc, .slice pa m pc]
 have d0 : w1.cell? ⟨bx, 0, none⟩ = some (.int .i64 kd) := ab.cell 0
 have d1 : w1.cell? ⟨bx, 1, none⟩ = some (.int .i64 now) := ab.cell 1
 have d2 : w1.cell? ⟨bx, 2, none⟩ = some (.int .i64 ty) := ab.cell 2
 have d3 : w1.cell? ⟨bx, 3, none⟩ = some (.int .i64 se) := ab.cell 3
 have d4 : w1.cell? ⟨bx, 4, none⟩ = some (.int .i64 bo) := ab.cell 4
 have d5 : w1.cell? ⟨bx, 5, none⟩ = some (.int .i64 sq) := ab.cell 5
 have d6 : w1.cell? ⟨bx, 6, none⟩ = some (.int .i64 ac) := ab.cell 6
 have d7 : w1.cell? ⟨bx, 7, none⟩ = some (.slice fa nb fc) := ab.cell 7
 have d8 : w1.cell? ⟨bx, 8, none⟩ = some (.slice pa m pc) := ab.cell 8
 have hbl : bx < w1.heap.size := ab.lt
 have hbF : ¬ F bx := fun hF => by have := h.lt bx hF; omega
 have HB := Lib.hid (And.intro hbx (And.intro h k1))
 have CT := Lib.hid (tick_J (h.kp0 k1) hI now)
 have hk1 := k1.size
 clear h hr hrW hfr hfW off hm hnb k1 hc hcm hfc hfm
 go_enter Tryz.func9, Tryz.ntmps9
 go_upto_region 1 with fail
 rw [← hw1, ← hbx]
 clear hw1 hbx ab
 rcases hkd with hkd | hkd | hkd
 all_goals
  subst hkd
  go_wp2_with fail
  go_at_call 21
  refine CT.out.mono ?_
  rintro e2 w2 ⟨v, rfl, kF, ls, vs, hlu, h64, hT, C2⟩
  obtain ⟨va, vc, ev⟩ := hlu.form
  subst ev
  obtain ⟨n, hn⟩ : ∃ n, n = ls.length := ⟨_, rfl⟩
  have C2 := Lib.hid (C2 w2 (Kp.refl _ _))
  have hn64 : n ≤ 1000 := by omega
  have d1 := kF.cell d1 hbF
  rw [← hn]
  have HN := Lib.hid hn
  have H2 := Lib.hid (And.intro hT hlu)
  clear kF hlu h64 hT CT hn d0 d2 d3 d4 d5 d6 d7 d8
  go_wp2_with fail
  go_at_call 23
  refine C2.out.mono ?_
  rintro e3 w3 ⟨a2, c2, rfl, hrd, F', hj, hm, htl⟩
  have CS := samelists_any va a2 n n vc c2 ls ls w3 htl.lu.rdl hrd HN.out.symm HN.out.symm (by omega)
  rw [decide_eq_true rfl] at CS
  have CS := Lib.hid CS
  have H3 := Lib.hid (And.intro hj (And.intro hm htl))
  rw [← HN.out]
  clear hrd hj hm htl C2
  go_wp2_with fail
  go_at_call 22
  refine CS.out.mono ?_
  rintro e4 w4 ⟨rfl, k4⟩
  have hlu6 : LLu w4 (.slice va n vc) ls vs := by
   have h1 := H3.out.2.2.lu.kp0 k4
   rw [← HN.out] at h1
   exact h1
  have H6 := Lib.hid (And.intro hlu6 k4)
  clear hlu6 k4 CS
  go_wp2_with fail
  go_loopw [11] (fun iv wr => ∃ i : Nat, i ≤ n ∧ iv = .int .i64 i ∧ Kp (Ov vs i) w4 wr) (fun iv _ => n - (intOf iv).toNat)
  case atStart => exact ⟨0, by omega, rfl, Kp.refl _ _⟩
  case round =>
   obtain ⟨i, hi, rfl, hk⟩ := hrel
   by_cases hlt : i < n
   · have j1 : (i : Int) < n := by omega
     obtain ⟨g, ai, ni, ci, ea, e0, ev, hob⟩ := H6.out.1.row (i := i) (by have := HN.out; omega) hk
     subst ea
     rw [ev] at hob
     have CO := Lib.hid (over_own hob)
     have HI := Lib.hid (And.intro hk ev)
     have HL := Lib.hid (show i + 1 ≤ n from hlt)
     clear hk ev hob
     go_wp2_with fail
     go_at_call 18
     refine CO.out.mono ?_
     rintro e7 w7 ⟨rfl, k7⟩
     have H7 := Lib.hid (show Kp (Ov vs (i + 1)) w4 w7 from (HI.out.1.mono (fun q _ ⟨j, hj, e⟩ => ⟨j, by omega, e⟩)).trans (k7.mono (fun q _ e => ⟨i, by omega, by rw [HI.out.2]; exact e⟩)))
     clear k7 CO e0
     go_wp2_with fail
     go_roundw
     case rel => exact ⟨i + 1, HL.out, by go_num, H7.out⟩
     case measure => have := HL.out; simp [intOf]; omega
   · obtain rfl : i = n := by omega
     have HK := Lib.hid hk
     clear hk
     go_wp2_with fail
     go_ret
     refine ⟨rfl, left_over (g1 := W.heap.size) HB.out.2.1 HB.out.2.2 ⟨Nat.le_refl _, by have := HB.out.1; omega⟩ H3.out.1 H3.out.2.1 (fun k hk => ?_) (fun k hk => ?_) H6.out.2 (Kp.refl _ _) HK.out⟩
     · obtain ⟨j, hj, e⟩ := hk
       exact H2.out.1 k (.inr ⟨j, by have := HN.out; omega, e⟩)
     · obtain ⟨j, hj, e⟩ := hk
       exact H3.out.2.2.ap k (.inr ⟨j, by have := HN.out; omega, e⟩)
set_option maxHeartbeats 2000000 in
theorem act_no (h : J w W ag p r I F) (hI : I ≤ 1000) (q : Sq) (hq : SqR w q) (hb : q.body.length ≤ 6000 ∧ q.f.bd.length ≤ 6000) (hkd : ∀ n : Nat, n ≤ 10 → q.kd ≠ n) : Calls Tryz.prog 9 #[.pointer (some ⟨p, 0, none⟩), .pointer (some ⟨r, 0, none⟩), .agg (sqA q)] W fun e W' => e = .returned (.bool true) ∧ Left w W ag p r I F W' := by
 obtain ⟨kd, now, ⟨ty, se, bo, sq, ac, bd⟩, fa, fc, pa, pc, body⟩ := q
 dsimp only at hkd hb
 skip
 obtain ⟨⟨hfr, hfc, hfm⟩, hr, hc, hcm⟩ := hq
 dsimp only at hfr hfc hfm hr hc hcm
 obtain ⟨hb1, hb2⟩ := hb
 dsimp only [sqA]
 have off := rdb_off h hr
 have hrW : RdB W pa body := hr.kp h.kpw (fun _ _ h => h)
 have hfW : RdB W fa bd := hfr.kp h.kpw (fun _ _ h => h)
 obtain ⟨m, hm⟩ : ∃ m, m = body.length := ⟨_, rfl⟩
 obtain ⟨nb, hnb⟩ : ∃ nb, nb = bd.length := ⟨_, rfl⟩
 rw [← hm] at hb1 hc
 rw [← hnb] at hb2 hfc
 rw [← hm, ← hnb]
 obtain ⟨bx, w1, hbx, hw1, k1, ab⟩ := act_box W [.int .i64 kd, .int .i64 now, .int .i64 ty, .int .i64 se, .int .i64 bo, .int .i64 sq, .int .i64 ac, .slice fa nb fc, .slice pa m pc]
 have d0 : w1.cell? ⟨bx, 0, none⟩ = some (.int .i64 kd) := ab.cell 0
 have d1 : w1.cell? ⟨bx, 1, none⟩ = some (.int .i64 now) := ab.cell 1
 have d2 : w1.cell? ⟨bx, 2, none⟩ = some (.int .i64 ty) := ab.cell 2
 have d3 : w1.cell? ⟨bx, 3, none⟩ = some (.int .i64 se) := ab.cell 3
 have d4 : w1.cell? ⟨bx, 4, none⟩ = some (.int .i64 bo) := ab.cell 4
 have d5 : w1.cell? ⟨bx, 5, none⟩ = some (.int .i64 sq) := ab.cell 5
 have d6 : w1.cell? ⟨bx, 6, none⟩ = some (.int .i64 ac) := ab.cell 6
 have d7 : w1.cell? ⟨bx, 7, none⟩ = some (.slice fa nb fc) := ab.cell 7
 have d8 : w1.cell? ⟨bx, 8, none⟩ = some (.slice pa m pc) := ab.cell 8
 have hbl : bx < w1.heap.size := ab.lt
 have hbF : ¬ F bx := fun hF => by have := h.lt bx hF; omega
 have HB := Lib.hid (And.intro hbx (And.intro h k1))
 have x0 : ¬ kd = 0 := hkd 0 (by omega)
 have x1 : ¬ kd = 1 := hkd 1 (by omega)
 have x2 : ¬ kd = 2 := hkd 2 (by omega)
 have x3 : ¬ kd = 3 := hkd 3 (by omega)
 have x4 : ¬ kd = 4 := hkd 4 (by omega)
 have x5 : ¬ kd = 5 := hkd 5 (by omega)
 have x6 : ¬ kd = 6 := hkd 6 (by omega)
 have x7 : ¬ kd = 7 := hkd 7 (by omega)
 have x8 : ¬ kd = 8 := hkd 8 (by omega)
 have x9 : ¬ kd = 9 := hkd 9 (by omega)
 have x10 : ¬ kd = 10 := hkd 10 (by omega)
 clear h hr hrW hfr hfW off hm hnb k1 hc hcm hfc hfm hkd
 go_enter Tryz.func9, Tryz.ntmps9
 go_upto_region 1 with fail
 rw [← hw1, ← hbx]
 clear hw1 hbx ab
 go_wp2_with fail
 go_ret
 obtain ⟨h, k1⟩ := HB.out.2
 refine ⟨rfl, ?_⟩
 rcases h with ⟨ea, x, e, rfl, rfl, h, rfl⟩ | ⟨ea, x, e, rfl, rfl, h, rfl⟩
 · obtain ⟨hj, hm⟩ := h.fin (h.a.mono (Nat.le_succ _)) (Mv.refl x.F (Kp.refl _ W)) (Kp.refl _ W) h.c (fun k hk => .inl hk) (Kp.refl _ W) (h.sc.same (Nat.le_succ x.I) (Ke.refl e))
   exact Left.post ⟨FA { x with I := x.I + 1 } r e, .inl ⟨ea, { x with I := x.I + 1 }, e, rfl, rfl, hj, rfl⟩, hm⟩ k1
 · obtain ⟨hj, hm⟩ := h.fin (h.d.mono (Nat.le_succ _)) (Mv.refl x.F (Kp.refl _ W)) (Kp.refl _ W) h.c (fun k hk => .inl hk) (Kp.refl _ W) (h.sc.same (Nat.le_succ x.I) (Ke.refl e))
   exact Left.post ⟨FD { x with I := x.I + 1 } r e, .inr ⟨ea, { x with I := x.I + 1 }, e, rfl, rfl, hj, rfl⟩, hm⟩ k1
theorem act_any (h : J w W ag p r I F) (hI : I ≤ 1000) (q : Sq) (hq : SqR w q) (hb : q.body.length ≤ 6000 ∧ q.f.bd.length ≤ 6000) : Calls Tryz.prog 9 #[.pointer (some ⟨p, 0, none⟩), .pointer (some ⟨r, 0, none⟩), .agg (sqA q)] W fun e W' => e = .returned (.bool true) ∧ Left w W ag p r I F W' := by
 by_cases hn : ∀ n : Nat, n ≤ 10 → q.kd ≠ n
 · exact act_no h hI q hq hb hn
 · have hx : ∃ n : Nat, n ≤ 10 ∧ q.kd = n := by
    false_or_by_contra
    rename_i hc
    exact hn fun n h1 h2 => hc ⟨n, h1, h2⟩
   obtain ⟨n, h1, h2⟩ := hx
   have h3 : n = 0 ∨ n = 1 ∨ n = 2 ∨ n = 3 ∨ n = 4 ∨ n = 5 ∨ n = 6 ∨ n = 7 ∨ n = 8 ∨ n = 9 ∨ n = 10 := by omega
   rcases h3 with rfl | rfl | rfl | rfl | rfl | rfl | rfl | rfl | rfl | rfl | rfl
   · exact act_send h hI q hq hb (.inl h2)
   · exact act_send h hI q hq hb (.inr (.inl h2))
   · exact act_send h hI q hq hb (.inr (.inr h2))
   · exact act_frame h hI q hq hb (.inl h2)
   · exact act_frame h hI q hq hb (.inr (.inl h2))
   · exact act_frame h hI q hq hb (.inr (.inr (.inl h2)))
   · exact act_frame h hI q hq hb (.inr (.inr (.inr h2)))
   · exact act_tick h hI q hq hb (.inl h2)
   · exact act_tick h hI q hq hb (.inr (.inl h2))
   · exact act_tick h hI q hq hb (.inr (.inr h2))
   · exact act_10 h hI q hq hb h2
end
end Go.Proofs.YtokembhfebnjpaaGreat
