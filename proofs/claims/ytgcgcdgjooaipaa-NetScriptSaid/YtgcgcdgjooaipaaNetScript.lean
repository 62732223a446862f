/- The walk of NetScript: it returns true, whatever comes in. No condition. (Written by wip/netscript.py.) -/
import Derived.Test.YtgcgcdgjooaipaaBoth
namespace Go.Proofs.Ytgcgcdgjooaipaa
open Go.RowKit Go.Maps
set_option linter.unusedVariables false
set_option linter.unusedSimpArgs false
theorem build_m7 (w : World) : (Instr.build 28 #[(0, .int .i64 (-7))]).run Try.prog w = .ok (.agg #[.int .i64 (-7), .int .i64 0, .slice none 0 0]) w := by kernel_rfl
/-- A told datagram is written over: its bytes, then itself. -/
theorem DgL.wipe {B0 : Nat} {w w1 : World} {v : Value} {ds : List Nd} (h : DgL B0 w v ds) {i : Nat} (hi : i < ds.length) (k : Kp (fun j => (nd ds i).B.ownBlock = some j) w w1) : ∃ g c, v = .slice (some ⟨g, 0, none⟩) ds.length c ∧ (∀ j, w1.frozen? ⟨g, j, none⟩ = false) ∧ (∀ j, j < ds.length * 3 → ∃ u, w1.cell? ⟨g, j, none⟩ = some u) ∧
    DgL B0 (((w1.setCell ⟨g, i * 3, none⟩ (.int .i64 (-7))).setCell ⟨g, i * 3 + 1, none⟩ (.int .i64 0)).setCell ⟨g, i * 3 + 2, none⟩ (.slice none 0 0)) v (ds.set i ⟨0, -7, 0, .slice none 0 0, []⟩) ∧ B0 ≤ g ∧
    Kp (· = g) w1 (((w1.setCell ⟨g, i * 3, none⟩ (.int .i64 (-7))).setCell ⟨g, i * 3 + 1, none⟩ (.int .i64 0)).setCell ⟨g, i * 3 + 2, none⟩ (.slice none 0 0)) := by
  obtain ⟨g, c, e, hf, hc, ho, k2⟩ := set3_own (h.own.kp k (fun b hb e => h.apart i b hi e hb)) hi ⟨0, -7, 0, .slice none 0 0, []⟩
  have hv : v.ownBlock = some g := by rw [e]; rfl
  have hs := nd_set hi ⟨0, -7, 0, .slice none 0 0, []⟩
  refine ⟨g, c, e, hf, hc, ⟨ho, fun j hj => ?_, fun p q b hp hq e1 e2 => ?_, fun j b hj e1 e2 => ?_, h.ge, fun j b hj e1 => ?_⟩, h.ge g hv, k2⟩
  · rw [List.length_set] at hj
    rw [hs]
    split
    · exact OwnB.nil' _
    · rename_i hne
      exact ((h.each j hj).kp k (fun b hb e => hne (h.dis j i b hj hi hb e))).kp k2 (fun b hb e => h.apart j b hj hb (by rw [hv, e]))
  · rw [List.length_set] at hp hq
    rw [hs] at e1 e2
    split at e1
    · simp [Value.ownBlock] at e1
    · split at e2
      · simp [Value.ownBlock] at e2
      · exact h.dis p q b hp hq e1 e2
  · rw [List.length_set] at hj
    rw [hs] at e1
    split at e1
    · simp [Value.ownBlock] at e1
    · exact h.apart j b hj e1 e2
  · rw [List.length_set] at hj
    rw [hs] at e1
    split at e1
    · simp [Value.ownBlock] at e1
    · exact h.geE j b hj e1
theorem DgL.cellB {B0 : Nat} {w : World} {g n c : Nat} {ds : List Nd} (h : DgL B0 w (.slice (some ⟨g, 0, none⟩) n c) ds) {i : Nat} (hi : i < ds.length) : w.cell? ⟨g, i * 3 + 2, none⟩ = some (nd ds i).B := by
  have hl := dgsC_len ds
  rcases h.own.2 with ⟨he, h0⟩ | ⟨g', cap, sp, he, hat, _⟩
  · cases he
  · simp only [Value.slice.injEq, Option.some.injEq, Addr.mk.injEq, and_true] at he
    obtain ⟨rfl, _⟩ := he
    rw [hat.cell, List.getElem?_append_left (by omega), dgsC_get ds i 2 hi (by omega)]; rfl
theorem DgL.wipe' {B0 : Nat} {w w1 : World} {g n c : Nat} {ds : List Nd} (h : DgL B0 w (.slice (some ⟨g, 0, none⟩) n c) ds) {i : Nat} (hi : i < ds.length) (k : Kp (fun j => (nd ds i).B.ownBlock = some j) w w1) : (∀ j, w1.frozen? ⟨g, j, none⟩ = false) ∧ (∃ u0, w1.cell? ⟨g, i * 3, none⟩ = some u0) ∧ (∃ u1, w1.cell? ⟨g, i * 3 + 1, none⟩ = some u1) ∧ (∃ u2, w1.cell? ⟨g, i * 3 + 2, none⟩ = some u2) ∧
    DgL B0 (((w1.setCell ⟨g, i * 3, none⟩ (.int .i64 (-7))).setCell ⟨g, i * 3 + 1, none⟩ (.int .i64 0)).setCell ⟨g, i * 3 + 2, none⟩ (.slice none 0 0)) (.slice (some ⟨g, 0, none⟩) n c) (ds.set i ⟨0, -7, 0, .slice none 0 0, []⟩) ∧
    Kp (fun j => B0 ≤ j) w (((w1.setCell ⟨g, i * 3, none⟩ (.int .i64 (-7))).setCell ⟨g, i * 3 + 1, none⟩ (.int .i64 0)).setCell ⟨g, i * 3 + 2, none⟩ (.slice none 0 0)) := by
  obtain ⟨gz, cz, ez, hf, hc, hd, hge, k2⟩ := h.wipe hi k
  simp only [Value.slice.injEq, Option.some.injEq, Addr.mk.injEq, and_true] at ez
  obtain ⟨rfl, _, _⟩ := ez
  exact ⟨hf, hc _ (by omega), hc _ (by omega), hc _ (by omega), hd, (k.mono (fun j _ e => h.geE i j hi e)).trans (k2.mono (fun j _ e => by omega))⟩
theorem Bo.make {w0 w : World} {nb mb : Nat} (h : St w0 w nb mb [] 0 0 (fun _ => false)) : Bo w0 (w.alloc (.cells #[.slice none 0 0, .slice none 0 0, .int .i64 0] 50)) nb mb w.heap.size 0 (fun _ => False) := by
  have ka := (Kp.refl (fun _ => False) w).alloc (.cells #[.slice none 0 0, .slice none 0 0, .int .i64 0] 50)
  have hno : ∀ b, DMine w.heap.size (.slice none 0 0) (.slice none 0 0) [] b → b = w.heap.size := fun b hb => by
    rcases hb with hb | hb | hb | ⟨i, hi, _⟩
    · exact hb
    · simp [Value.ownBlock] at hb
    · simp [Value.ownBlock] at hb
    · exact absurd hi (Nat.not_lt_zero _)
  have hk := h.k.size
  refine ⟨.slice none 0 0, .slice none 0 0, [], [], 0, 0, fun _ => false, [], ⟨h.kp0 ka, ⟨At.new w [.slice none 0 0, .slice none 0 0, .int .i64 0] _, DgL.nil _ _, Own.nil _ 2, fun hf => ?_, by simp [Value.ownBlock], fun b hb => by simp [Value.ownBlock] at hb⟩, fun b hb => by rw [hno b hb]; exact hk, fun b hb hm => ?_⟩, rfl, fun a b => by simp, Nat.le_refl _, Nat.le_refl _, by omega, by omega, fun _ _ h => h⟩
  · rcases hf with hf | ⟨i, hi, _⟩
    · simp [Value.ownBlock] at hf
    · exact absurd hi (Nat.not_lt_zero _)
  · rw [hno b hb] at hm
    have := h.n.lt hm; omega
set_option maxHeartbeats 8000000 in
set_option maxRecDepth 20000 in
theorem script_main (a : Option Addr) (xs : List Ac) (cap n : Nat) (hnn : n = xs.length) (to : Int) (w : World) (hr : RdA w a xs) (hm : ∀ i, (ac xs i).l.length ≤ 140737488351232) (hl : n ≤ 60 ∧ totA xs n ≤ 8000) :
    Calls Try.prog 6 #[.slice a n cap, .int .i64 to] w fun e w' => e = .returned (.bool true) ∧ Below w.heap.size w w' := by
  have CN := Lib.hid (st_new w)
  have AW := Lib.hid (fun w' => awake_any w')
  have CL := Lib.hid (fun w' (k : Kp (fun _ => False) w w') => large_any a xs cap n hnn w' (hr.kp0 k) hm false (decide_eq_false (by omega)).symm)
  have H := Lib.hid (And.intro hr (And.intro hl hnn))
  have n60 : n ≤ 60 := hl.1
  clear hr hm hl hnn
  go_enter Try.func6, Try.ntmps6
  go_upto_region 7 with (first | (go_at_call 10; (with_reducible refine CN.out.mono ?_); rintro e w2 ⟨nb, mb, rfl, s2⟩; have S2 := Lib.hid s2; clear s2) | (go_at_call 25; (with_reducible refine (CL.out _ S2.out.k).mono ?_); rintro e w' ⟨rfl, rfl⟩))
  refine wp_world (fun wx => Bo w wx nb mb w2.heap.size 0 (fun _ => False)) (Bo.make S2.out) ?_
  rintro w3 b3
  obtain ⟨db, hdb⟩ : ∃ db, db = w2.heap.size := ⟨_, rfl⟩
  rw [← hdb] at b3 ⊢
  have B3 := Lib.hid b3
  clear b3 hdb CN
  go_wp2_with fail
  go_loopw [7] (fun iv wr => ∃ i : Nat, i ≤ n ∧ iv = .int .i64 i ∧ Bo w wr nb mb db i (fun _ => False)) (fun iv _ => n - (intOf iv).toNat)
  case atStart => exact ⟨0, by omega, rfl, B3.out⟩
  case round =>
    obtain ⟨i, hin, rfl, hB⟩ := hrel
    have HB := Lib.hid hB
    clear hB B3
    by_cases hlt : i < n
    · have j1 : (i : Int) < n := by omega
      obtain ⟨b1, o1, ai, ci, rfl, f0, f1, f2, f3, f4, f5, f6, r6, hc6, hi1, hk1⟩ := H.out.1 i (by rw [← H.out.2.2]; exact hlt)
      have hml := Nat.le_trans (totA_each xs n i hlt) H.out.2.1.2
      have CB := Lib.hid (both_any HB.out (by omega) (ac xs i).kd (ac xs i).i (ac xs i).k (ac xs i).is (ac xs i).fr (ac xs i).tt ai (ac xs i).l.length ci (ac xs i).l rfl r6 hc6 hml hi1 hk1)
      have cc := fun (p : Addr) (v : Value) (e : w.cell? p = some v) => HB.out.k.cell e (fun h => h)
      replace f0 := cc _ _ f0
      replace f1 := cc _ _ f1
      replace f2 := cc _ _ f2
      replace f3 := cc _ _ f3
      replace f4 := cc _ _ f4
      replace f5 := cc _ _ f5
      replace f6 := cc _ _ f6
      clear cc r6 hc6 hi1 hk1 hml
      generalize (ac xs i).kd = kd at *
      generalize (ac xs i).i = xi at *
      generalize (ac xs i).k = xk at *
      generalize (ac xs i).is = is at *
      generalize (ac xs i).fr = fr at *
      generalize (ac xs i).tt = tt at *
      generalize (ac xs i).l.length = m at *
      go_upto_region 12 with (go_at_call 26; (with_reducible refine CB.out.mono ?_); rintro e w5 ⟨rfl, b5⟩; have B5 := Lib.hid b5; clear b5)
      obtain ⟨L, O, nds, ds, lost, N, f, os, h5, hkey, hoff, hN, hos, hl0, hl1, _⟩ := B5.out
      obtain ⟨hlen, _⟩ := key_at hkey
      have hn2 := h5.st.n.len
      have CW := Lib.hid (waiting_any nb mb nds _ lost w5 h5.st.n.c (by omega) (fun k hk => by have := h5.st.n.lens k hk; omega))
      have H5 := Lib.hid (And.intro h5 (And.intro hkey (And.intro hlen hn2)))
      clear h5 hkey hoff hN hos hl0 hl1 hlen hn2 f0 f1 f2 f3 f4 f5 f6 CB
      go_upto_region 13 with (go_at_call 13; (with_reducible refine CW.out.mono ?_); rintro e w6 ⟨vx, es, rfl, d6, e6, k6⟩; obtain ⟨ax, cx, rfl, hcx, rx⟩ := d6.rdd; have H6 := Lib.hid (And.intro d6 (And.intro e6 (And.intro k6 rx))); clear d6 e6 k6 rx)
      obtain ⟨nw, hnw⟩ : ∃ nw, nw = es.length := ⟨_, rfl⟩
      rw [← hnw] at hcx ⊢
      have hd6 := H5.out.1.d.kp0 H6.out.2.2.1
      obtain ⟨aL, cL, hL, _, rL, y0⟩ := hd6.lf
      have y2 := hd6.c2
      obtain ⟨nL, hnL⟩ : ∃ nL, nL = ds.length := ⟨_, rfl⟩
      rw [← hnL] at y0
      have hes := (key_at H6.out.2.1).1
      have hes2 : nw ≤ 2000 := by have := H5.out.2.2.2; omega
      have CS := Lib.hid (fun w' (k : Kp (fun _ => False) w6 w') => samedg_n ax aL nw nL cx cL es ds w' (H6.out.2.2.2.kp0 k (fun _ _ h => h)) (rL.kp0 k (fun _ _ h => h)) (H6.out.2.1.trans H5.out.2.1) (by omega) hnw.symm hnL.symm)
      have CLo := Lib.hid (fun w' (k : Kp (fun _ => False) w6 w') => st_lost (H5.out.1.st.kp0 (H6.out.2.2.1.trans k)))
      have CF := Lib.hid (fun w' (k : Kp (fun _ => False) w6 w') => st_first (H5.out.1.st.kp0 (H6.out.2.2.1.trans k)) to)
      have CDF := Lib.hid (fun w' (k : Kp (fun _ => False) w6 w') => (by have := dfirst_any (hd6.kp0 k) (by have := H5.out.2.2; omega) to; rw [← H5.out.2.1] at this; exact this : Calls Try.prog 27 #[.pointer (some ⟨db, 0, none⟩), .int .i64 to] w' fun e w'' => e = .returned (.int .i64 (firstK (nds.map dkey) to 0)) ∧ w' = w''))
      generalize firstK (nds.map dkey) to 0 = fk at *
      have HN := Lib.hid hnw
      clear hd6 hL rL hnL hes hnw
      refine region_L (S := fun w' => Kp (fun _ => False) w6 w') [] rfl ?_
      have hSd : ∀ (w' : World) (n' : Nat), Kp (fun _ => False) w6 w' → Kp (fun _ => False) w6 (w'.drewN n') := fun w' n' h => h.drewN n'
      have hS1 : Kp (fun _ => False) w6 w6.drew := (Kp.refl _ w6).drew
      refine anyL_takeF (i := 0) (d := 34) (v := (.slice ax nw cx)) rfl rfl (by kernel_rfl) (by kernel_rfl) (by kernel_rfl) (fun _ _ _ h => h) hSd (by kernel_rfl) (.inl (.inl ⟨rfl, fun w' hS => rfl⟩)) (fun _ => hS1) ?_
      try simp only [List.setIfInBounds_toArray, List.set_cons_succ, List.set_cons_zero]
      refine anyL_takeF (i := 1) (d := 35) (v := (.pointer (some ⟨db, 0, none⟩))) rfl rfl (by kernel_rfl) (by kernel_rfl) (by kernel_rfl) (fun _ _ _ h => h) hSd (by kernel_rfl) (.inl (.inl ⟨rfl, fun w' hS => rfl⟩)) (fun _ => hS1) ?_
      try simp only [List.setIfInBounds_toArray, List.set_cons_succ, List.set_cons_zero]
      refine anyL_takeF (i := 2) (d := 36) (v := (.pointer (some ⟨db, 0, none⟩))) rfl rfl (by kernel_rfl) (by kernel_rfl) (by kernel_rfl) (fun _ _ _ h => h) hSd (by kernel_rfl) (.inl (.inl ⟨rfl, fun w' hS => by go_simp⟩)) (fun _ => hS1) ?_
      try simp only [List.setIfInBounds_toArray, List.set_cons_succ, List.set_cons_zero]
      refine anyL_takeF (i := 3) (d := 37) (v := (.pointer (some ⟨db, 0, none⟩))) rfl rfl (by kernel_rfl) (by kernel_rfl) (by kernel_rfl) (fun _ _ _ h => h) hSd (by kernel_rfl) (.inl (.inl ⟨rfl, fun w' hS => by go_simp⟩)) (fun _ => hS1) ?_
      try simp only [List.setIfInBounds_toArray, List.set_cons_succ, List.set_cons_zero]
      refine anyL_takeD (i := 4) (d := 38) (v := (.slice aL nL cL)) rfl rfl (by kernel_rfl) (by kernel_rfl) (by kernel_rfl) (fun _ _ _ h => h) hSd (by kernel_rfl) (.inl (.inl ⟨rfl, fun w' hS => by have hc := Kp.cell hS y0 (fun h => h); go_simp⟩)) hS1 ?_
      try simp only [List.setIfInBounds_toArray, List.set_cons_succ, List.set_cons_zero]
      refine anyL_all (rs := [5]) (by kernel_rfl) (by simp) ?_
      intro n5 i hi
      simp only [List.mem_cons, List.not_mem_nil, or_false] at hi
      obtain rfl := hi
      refine wpOp_of rfl rfl ?_
      go_simp
      refine Calls.mono (CS.out _ ((Kp.refl _ w6).drewN _)) ?_
      rintro e w7 ⟨rfl, k7⟩
      have k67 : Kp (fun _ => False) w6 w7 := ((Kp.refl _ w6).drewN _).trans k7
      try dsimp only
      refine ⟨fun _ => k67, ?_⟩
      have hS1 := k67
      try simp only [List.setIfInBounds_toArray, List.set_cons_succ, List.set_cons_zero]
      refine anyL_takeF (i := 6) (d := 40) (v := (.bool false)) rfl rfl (by kernel_rfl) (by kernel_rfl) (by kernel_rfl) (fun _ _ _ h => h) hSd (by kernel_rfl) (.inl (.inl ⟨rfl, fun w' hS => by go_simp⟩)) (fun _ => hS1) ?_
      try simp only [List.setIfInBounds_toArray, List.set_cons_succ, List.set_cons_zero]
      refine anyL_takeF (i := 7) (d := 41) (v := (.bool false)) rfl rfl (by kernel_rfl) (by kernel_rfl) (by kernel_rfl) (fun _ _ _ h => h) hSd (by kernel_rfl) (.inl (.inl ⟨rfl, fun w' hS => rfl⟩)) (fun _ => hS1) ?_
      try simp only [List.setIfInBounds_toArray, List.set_cons_succ, List.set_cons_zero]
      refine anyL_takeF (i := 8) (d := 42) (v := (.pointer (some ⟨nb, 0, none⟩))) rfl rfl (by kernel_rfl) (by kernel_rfl) (by kernel_rfl) (fun _ _ _ h => h) hSd (by kernel_rfl) (.inl (.inl ⟨rfl, fun w' hS => rfl⟩)) (fun _ => hS1) ?_
      try simp only [List.setIfInBounds_toArray, List.set_cons_succ, List.set_cons_zero]
      refine anyL_takeF (i := 10) (d := 44) (v := (.pointer (some ⟨db, 0, none⟩))) rfl rfl (by kernel_rfl) (by kernel_rfl) (by kernel_rfl) (fun _ _ _ h => h) hSd (by kernel_rfl) (.inl (.inl ⟨rfl, fun w' hS => rfl⟩)) (fun _ => hS1) ?_
      try simp only [List.setIfInBounds_toArray, List.set_cons_succ, List.set_cons_zero]
      refine anyL_takeF (i := 11) (d := 45) (v := (.pointer (some ⟨db, 0, none⟩))) rfl rfl (by kernel_rfl) (by kernel_rfl) (by kernel_rfl) (fun _ _ _ h => h) hSd (by kernel_rfl) (.inl (.inl ⟨rfl, fun w' hS => by go_simp⟩)) (fun _ => hS1) ?_
      try simp only [List.setIfInBounds_toArray, List.set_cons_succ, List.set_cons_zero]
      refine anyL_takeF (i := 12) (d := 46) (v := (.pointer (some ⟨db, 2, none⟩))) rfl rfl (by kernel_rfl) (by kernel_rfl) (by kernel_rfl) (fun _ _ _ h => h) hSd (by kernel_rfl) (.inl (.inl ⟨rfl, fun w' hS => by go_simp⟩)) (fun _ => hS1) ?_
      try simp only [List.setIfInBounds_toArray, List.set_cons_succ, List.set_cons_zero]
      refine anyL_takeD (i := 13) (d := 47) (v := (.int .i64 lost)) rfl rfl (by kernel_rfl) (by kernel_rfl) (by kernel_rfl) (fun _ _ _ h => h) hSd (by kernel_rfl) (.inl (.inl ⟨rfl, fun w' hS => by have hc := Kp.cell hS y2 (fun h => h); go_simp⟩)) hS1 ?_
      try simp only [List.setIfInBounds_toArray, List.set_cons_succ, List.set_cons_zero]
      refine anyL_all (rs := [9]) (by kernel_rfl) (by simp) ?_
      intro n9 i hi
      simp only [List.mem_cons, List.not_mem_nil, or_false] at hi
      obtain rfl := hi
      refine wpOp_of rfl rfl ?_
      go_simp
      refine Calls.mono (CLo.out _ (k67.drewN _)) ?_
      rintro e w8 ⟨rfl, rfl⟩
      have k68 := k67.drewN n9
      try dsimp only
      refine ⟨fun _ => k68, ?_⟩
      have hS1 := k68
      try simp only [List.setIfInBounds_toArray, List.set_cons_succ, List.set_cons_zero]
      refine anyL_takeF (i := 14) (d := 48) (v := (.bool false)) rfl rfl (by kernel_rfl) (by kernel_rfl) (by kernel_rfl) (fun _ _ _ h => h) hSd (by kernel_rfl) (.inl (.inl ⟨rfl, fun w' hS => by go_simp⟩)) (fun _ => hS1) ?_
      try simp only [List.setIfInBounds_toArray, List.set_cons_succ, List.set_cons_zero]
      refine anyL_takeF (i := 15) (d := 49) (v := (.bool false)) rfl rfl (by kernel_rfl) (by kernel_rfl) (by kernel_rfl) (fun _ _ _ h => h) hSd (by kernel_rfl) (.inl (.inl ⟨rfl, fun w' hS => rfl⟩)) (fun _ => hS1) ?_
      try simp only [List.setIfInBounds_toArray, List.set_cons_succ, List.set_cons_zero]
      refine anyL_takeF (i := 16) (d := 50) (v := (.bool false)) rfl rfl (by kernel_rfl) (by kernel_rfl) (by kernel_rfl) (fun _ _ _ h => h) hSd (by kernel_rfl) (.inl (.inl ⟨rfl, fun w' hS => rfl⟩)) (fun _ => hS1) ?_
      try simp only [List.setIfInBounds_toArray, List.set_cons_succ, List.set_cons_zero]
      refine anyL_takeF (i := 17) (d := 51) (v := (.pointer (some ⟨nb, 0, none⟩))) rfl rfl (by kernel_rfl) (by kernel_rfl) (by kernel_rfl) (fun _ _ _ h => h) hSd (by kernel_rfl) (.inl (.inl ⟨rfl, fun w' hS => rfl⟩)) (fun _ => hS1) ?_
      try simp only [List.setIfInBounds_toArray, List.set_cons_succ, List.set_cons_zero]
      refine anyL_takeF (i := 18) (d := 52) (v := (.int .i64 to)) rfl rfl (by kernel_rfl) (by kernel_rfl) (by kernel_rfl) (fun _ _ _ h => h) hSd (by kernel_rfl) (.inl (.inl ⟨rfl, fun w' hS => rfl⟩)) (fun _ => hS1) ?_
      try simp only [List.setIfInBounds_toArray, List.set_cons_succ, List.set_cons_zero]
      refine anyL_takeF (i := 20) (d := 54) (v := (.pointer (some ⟨db, 0, none⟩))) rfl rfl (by kernel_rfl) (by kernel_rfl) (by kernel_rfl) (fun _ _ _ h => h) hSd (by kernel_rfl) (.inl (.inl ⟨rfl, fun w' hS => rfl⟩)) (fun _ => hS1) ?_
      try simp only [List.setIfInBounds_toArray, List.set_cons_succ, List.set_cons_zero]
      refine anyL_takeF (i := 21) (d := 55) (v := (.int .i64 to)) rfl rfl (by kernel_rfl) (by kernel_rfl) (by kernel_rfl) (fun _ _ _ h => h) hSd (by kernel_rfl) (.inl (.inl ⟨rfl, fun w' hS => rfl⟩)) (fun _ => hS1) ?_
      try simp only [List.setIfInBounds_toArray, List.set_cons_succ, List.set_cons_zero]
      refine anyL_all (rs := [19]) (by kernel_rfl) (by simp) ?_
      intro n19 i hi
      simp only [List.mem_cons, List.not_mem_nil, or_false] at hi
      obtain rfl := hi
      refine wpOp_of rfl rfl ?_
      go_simp
      refine Calls.mono (CF.out _ (k67.drewN _)) ?_
      rintro e w9 ⟨rfl, k9⟩
      have k69 := (k67.drewN _).trans k9
      try dsimp only
      refine ⟨fun _ => k69, ?_⟩
      have hS1 := k69
      try simp only [List.setIfInBounds_toArray, List.set_cons_succ, List.set_cons_zero]
      refine anyL_all (rs := [22]) (by kernel_rfl) (by simp) ?_
      intro n22 i hi
      simp only [List.mem_cons, List.not_mem_nil, or_false] at hi
      obtain rfl := hi
      refine wpOp_of rfl rfl ?_
      go_simp
      refine Calls.mono (CDF.out _ (k69.drewN _)) ?_
      rintro e w10 ⟨rfl, rfl⟩
      have k610 := k69.drewN n22
      try dsimp only
      refine ⟨fun _ => k610, ?_⟩
      have hS1 := k610
      try simp only [List.setIfInBounds_toArray, List.set_cons_succ, List.set_cons_zero]
      refine anyL_takeF (i := 23) (d := 57) (v := (.bool false)) rfl rfl (by kernel_rfl) (by kernel_rfl) (by kernel_rfl) (fun _ _ _ h => h) hSd (by kernel_rfl) (.inl (.inl ⟨rfl, fun w' hS => by go_simp⟩)) (fun _ => hS1) ?_
      try simp only [List.setIfInBounds_toArray, List.set_cons_succ, List.set_cons_zero]
      refine anyL_takeF (i := 24) (d := 58) (v := (.bool false)) rfl rfl (by kernel_rfl) (by kernel_rfl) (by kernel_rfl) (fun _ _ _ h => h) hSd (by kernel_rfl) (.inl (.inl ⟨rfl, fun w' hS => rfl⟩)) (fun _ => hS1) ?_
      try simp only [List.setIfInBounds_toArray, List.set_cons_succ, List.set_cons_zero]
      refine anyL_done (by kernel_rfl) (fun nn => ?_) _
      have K6 := Lib.hid (k610.drewN nn)
      generalize (w9.drewN n22).drewN nn = w11 at *
      clear k67 k68 k69 k610 k7 k9 hS1 hSd CS CLo CF CDF
      have hz7 := build_m7
      have B11 := Lib.hid ((B5.out.avoid (av := fun b => w5.heap.size ≤ b) (H6.out.2.2.1.trans K6.out) (fun j h => h)))
      have D11 := Lib.hid (H6.out.1.kp0 K6.out)
      clear y0 y2
      have HW0 := Lib.hid (show w.heap.size ≤ w5.heap.size from B5.out.k.size)
      go_wp2_with fail
      go_loopw [9] (fun kv wr => ∃ (k : Nat) (ys : List Nd), k ≤ nw ∧ kv = .int .i64 k ∧ ys.length = nw ∧ DgL w5.heap.size wr (.slice ax nw cx) ys ∧ Bo w wr nb mb db (i + 1) (fun b => w5.heap.size ≤ b)) (fun kv _ => nw - (intOf kv).toNat)
      case atStart => exact ⟨0, es, by omega, rfl, HN.out.symm, by have := D11.out; rw [← HN.out] at this; exact this, B11.out⟩
      case round =>
        obtain ⟨k, ys, hk5, rfl, hys, hd, hb⟩ := hrel
        have HD := Lib.hid (And.intro hd (And.intro hb hys))
        by_cases hlk : k < nw
        · have j2 : (k : Int) < nw := by omega
          obtain ⟨_, _, ev, _, hrd⟩ := hd.rdd
          simp only [Value.slice.injEq] at ev
          obtain ⟨rfl, ev1, ev2⟩ := ev
          clear ev1 ev2
          obtain ⟨bx, ox, ab, cb, rfl, g0, g1, g2, _⟩ := hrd k (by omega)
          obtain ⟨gz, cz, ez, _⟩ := hd.wipe (i := k) (by omega) (Kp.refl _ wr)
          simp only [Value.slice.injEq, Option.some.injEq, Addr.mk.injEq, and_true] at ez
          obtain ⟨⟨rfl, rfl⟩, ev1, ev2⟩ := ez
          clear ev1 ev2
          have gB := hd.cellB (i := k) (by omega)
          rw [Nat.zero_add] at g0 g1 g2
          have eB := Option.some.inj (gB.symm.trans g2)
          have CO := Lib.hid (over_own (hd.each k (by omega)))
          rw [eB] at CO
          have HE := Lib.hid eB
          obtain ⟨mk, hmk⟩ : ∃ mk, mk = (nd ys k).l.length := ⟨_, rfl⟩
          rw [← hmk] at g2 CO HE
          clear hd hb hys gB eB hrd g0 g1 hmk
          go_wp2_with (go_at_call 28; (with_reducible refine CO.out.mono ?_); rintro e w1 ⟨rfl, k1⟩; rw [← HE.out] at k1; obtain ⟨hf, ⟨u0, c0⟩, ⟨u1, c1⟩, ⟨u2, c2⟩, hd2, k2⟩ := HD.out.1.wipe' (i := k) (by have := HD.out.2.2; omega) k1; have z0 := hf (k * 3); have z1 := hf (k * 3 + 1); have z2 := hf (k * 3 + 2); have H2 := Lib.hid (And.intro hd2 k2); clear hd2 k2 hf k1)
          go_roundw
          case rel => exact ⟨k + 1, _, by omega, by go_num, by rw [List.length_set]; exact HD.out.2.2, H2.out.1, HD.out.2.1.kp H2.out.2 (fun j h => h) (fun j h => by have := HW0.out; omega)⟩
          case measure => simp [intOf]; omega
        · obtain rfl : k = nw := by omega
          clear hd hb hys hlk
          go_wp2
          go_roundw
          case rel => exact ⟨i + 1, by omega, by go_num, HD.out.2.1.free⟩
          case measure => simp [intOf]; omega
    · obtain rfl : i = n := by omega
      clear hlt
      go_wp2_with (go_at_call 9; (with_reducible refine (AW.out _).mono ?_); rintro e w9 ⟨rfl, k9⟩; have K9 := Lib.hid k9; clear k9)
      go_ret
      exact ⟨rfl, (HB.out.k.trans K9.out).below (fun _ _ h => h)⟩
set_option maxHeartbeats 1000000 in
theorem script_long (a : Option Addr) (xs : List Ac) (cap n : Nat) (hnn : n = xs.length) (to : Int) (w : World) (hr : RdA w a xs) (hm : ∀ i, (ac xs i).l.length ≤ 140737488351232) (hl : 60 < n ∨ 8000 < totA xs n) :
    Calls Try.prog 6 #[.slice a n cap, .int .i64 to] w fun e w' => e = .returned (.bool true) ∧ Below w.heap.size w w' := by
  have CN := Lib.hid (st_new w)
  have AW := Lib.hid (fun w' => awake_any w')
  have CL := Lib.hid (fun w' (k : Kp (fun _ => False) w w') => large_any a xs cap n hnn w' (hr.kp0 k) hm true (decide_eq_true hl).symm)
  clear hr hm hl hnn
  go_enter Try.func6, Try.ntmps6
  go_wp2_with (first | (go_at_call 10; (with_reducible refine CN.out.mono ?_); rintro e w2 ⟨nb, mb, rfl, s2⟩; have S2 := Lib.hid s2; clear s2) | (go_at_call 25; (with_reducible refine (CL.out _ S2.out.k).mono ?_); rintro e w' ⟨rfl, rfl⟩) | (go_at_call 9; (with_reducible refine (AW.out _).mono ?_); rintro e w9 ⟨rfl, k9⟩; have K9 := Lib.hid k9; clear k9))
  go_ret
  exact ⟨rfl, (S2.out.k.trans K9.out).below (fun _ _ h => h)⟩
theorem netScript_walk (a0 : Option Addr) (len0 cap0 : Nat) (n1 : Int) (w : World) (r0 : Rdg Try.prog w 45 [.slice a0 len0 cap0]) (r1 : Rdg Try.prog w 3 [.int .i64 n1]) :
    Calls Try.prog 6 #[.slice a0 len0 cap0, .int .i64 n1] w fun e w' => e = .returned (.bool true) ∧ Below w.heap.size w w' := by
  obtain ⟨a, xs, cap, e, hr, hm⟩ := rda_open r0
  simp only [List.cons.injEq, Value.slice.injEq, and_true] at e
  obtain ⟨rfl, rfl, rfl⟩ := e
  by_cases h : 60 < xs.length ∨ 8000 < totA xs xs.length
  · exact script_long a0 xs cap0 _ rfl n1 w hr hm h
  · exact script_main a0 xs cap0 _ rfl n1 w hr hm (by omega)
end Go.Proofs.Ytgcgcdgjooaipaa
