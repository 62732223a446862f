/- FrameTypes. (Written by wip/frtypes.py.) -/
import Derived.Test.YtjjoancnkjlaeaaFrmV
import Derived.Deep.DeepCutAuto
namespace Go.Proofs.Ytjjoancnkjlaeaa
open Go.RowKit
set_option linter.unusedVariables false
set_option linter.unusedSimpArgs false
theorem errF_typed {f : Fr} (ht : typedP f.ty) (hr : rangeP f.se f.bo f.sq f.ac) (hl : f.bd.length ≤ 1400) : errF f = if says f = false then 2 else 0 := by
  unfold errF
  rw [if_neg (fun h => h ht), if_neg (fun h => h hr), if_neg (by omega)]
set_option maxHeartbeats 2000000 in
set_option maxRecDepth 20000 in
theorem types_main (f : Fr) (a : Option Addr) (c : Nat) (k : Int) (w : World) (hI : frI f) (hk : -9223372036854775808 ≤ k ∧ k ≤ 9223372036854775807) (he : errF f = 0) :
    Calls Try.prog 8 #[.agg (frA f a c), .int .i64 k] w fun e w' => e = .returned (.bool true) ∧ Below w.heap.size w w' := by
  obtain ⟨ht, hr, hl, hs⟩ := errF_ok he
  have AW := Lib.hid (fun w' => awake_any w')
  have CC := Lib.hid (fun w' => fcheck_any f a c w' (by omega) hI.1 hI.2.1 hI.2.2.1 hI.2.2.2)
  rw [he] at CC
  have CG := Lib.hid (fun w' => fcheck_any ⟨k, f.se, f.bo, f.sq, f.ac, f.bd⟩ a c w' (by simp only; omega) hI.1 hI.2.1 hI.2.2.1 hI.2.2.2)
  have h213 : Hid (¬ typedP k → errF ⟨k, f.se, f.bo, f.sq, f.ac, f.bd⟩ = 213) := fun h => by unfold errF; rw [if_pos h]
  have hes : Hid (typedP k → errF ⟨k, f.se, f.bo, f.sq, f.ac, f.bd⟩ = if decide (sayP k f.se f.bo f.sq f.ac f.bd.length) = false then 2 else 0) := fun h => errF_typed (f := ⟨k, f.se, f.bo, f.sq, f.ac, f.bd⟩) h hr hl
  obtain ⟨er, her⟩ : ∃ er, Hid (errF ⟨k, f.se, f.bo, f.sq, f.ac, f.bd⟩ = er) := ⟨_, rfl⟩
  rw [her.out] at CG h213 hes
  have hsay : sayP f.ty f.se f.bo f.sq f.ac f.bd.length := of_decide_eq_true hs
  clear hI he hs her
  obtain ⟨ty, se, bo, sq, ac, bd⟩ := f
  dsimp only [frA] at *
  generalize bd.length = n at *
  obtain ⟨⟨r1, -⟩, ⟨r2, -⟩, ⟨r3, -⟩, ⟨r4, -⟩⟩ := hr
  have hse : 1 ≤ se := hsay.1
  have HSAY := Lib.hid (And.intro ht hsay)
  have hn : n ≤ 1400 := hl
  clear hsay hl ht
  go_enter Try.func8, Try.ntmps8
  go_upto_region 5 with (first | (go_at_call 18; refine (AW.out _).mono ?_; rintro e w1 ⟨rfl, k1⟩; have ha1 := k1.at (At.new w [.int .i64 ty, .int .i64 se, .int .i64 bo, .int .i64 sq, .int .i64 ac, .slice a n c] 24) (fun h => h); have x0 := (ha1.cell 0).trans (show _ = some (.int .i64 ty) from rfl); have x1 := (ha1.cell 1).trans (show _ = some (.int .i64 se) from rfl); have x2 := (ha1.cell 2).trans (show _ = some (.int .i64 bo) from rfl); have x3 := (ha1.cell 3).trans (show _ = some (.int .i64 sq) from rfl); have x4 := (ha1.cell 4).trans (show _ = some (.int .i64 ac) from rfl); have x5 := (ha1.cell 5).trans (show _ = some (.slice a n c) from rfl); have K1 := Lib.hid (And.intro ha1 (((Kp.refl (fun _ => False) w).alloc _).trans k1)); clear ha1 k1) | (go_at_call 14; (with_reducible refine (CC.out _).mono ?_); rintro e w2 ⟨rfl, k2⟩; have ha2 := k2.at K1.out.1 (fun h => h); have y0 := (ha2.cell 0).trans (show _ = some (.int .i64 ty) from rfl); have y1 := (ha2.cell 1).trans (show _ = some (.int .i64 se) from rfl); have y2 := (ha2.cell 2).trans (show _ = some (.int .i64 bo) from rfl); have y3 := (ha2.cell 3).trans (show _ = some (.int .i64 sq) from rfl); have y4 := (ha2.cell 4).trans (show _ = some (.int .i64 ac) from rfl); have y5 := (ha2.cell 5).trans (show _ = some (.slice a n c) from rfl); have K2 := Lib.hid (And.intro ha2 (K1.out.2.trans k2)); clear ha2 k2))
  clear CC x0 x1 x2 x3 x4 x5 K1
  go_cut [69] (fun s wx => s = .bool false ∧ wx = w2)
  case first =>
    obtain ⟨ht, hsay⟩ := HSAY.out
    have h5 : ty = 1 ∨ ty = 2 ∨ ty = 3 ∨ ty = 4 ∨ ty = 5 := by unfold typedP at ht; omega
    clear HSAY hes CG h213 ht
    rcases h5 with rfl | rfl | rfl | rfl | rfl
    · obtain ⟨rfl, rfl, hn0, rfl⟩ := hsay.2.1 rfl
      obtain rfl : n = 0 := by omega
      clear hsay hn0
      go_wp2_with fail; go_meet; exact ⟨by first | rfl | (refine congrArg Value.bool ?_; simp <;> omega), rfl⟩
    · obtain ⟨hb, rfl, hn0, rfl⟩ := hsay.2.2.1 rfl
      obtain rfl : n = 0 := by omega
      have hb' : ¬ bo = 0 := by omega
      clear hsay hn0
      go_wp2_with fail; go_meet; exact ⟨by first | rfl | (refine congrArg Value.bool ?_; simp <;> omega), rfl⟩
    · obtain ⟨hb, hq⟩ := hsay.2.2.2.1 rfl
      have hb' : ¬ bo = 0 := by omega
      have hq' : 0 < sq := by omega
      clear hsay
      go_wp2_with fail; go_meet; exact ⟨by first | rfl | (refine congrArg Value.bool ?_; simp <;> omega), rfl⟩
    · obtain ⟨hb, rfl, hn0⟩ := hsay.2.2.2.2.1 rfl
      obtain rfl : n = 0 := by omega
      have hb' : ¬ bo = 0 := by omega
      clear hsay hn0
      go_wp2_with fail; go_meet; exact ⟨by first | rfl | (refine congrArg Value.bool ?_; simp <;> omega), rfl⟩
    · obtain ⟨rfl, hn0, rfl⟩ := hsay.2.2.2.2.2 rfl
      obtain rfl : n = 0 := by omega
      clear hsay hn0
      go_wp2_with fail; go_meet; exact ⟨by first | rfl | (refine congrArg Value.bool ?_; simp <;> omega), rfl⟩
  obtain ⟨rfl, rfl⟩ := hcut
  go_upto_region 7 with fail
  go_cut [82] (fun s wx => s = .bool false ∧ wx = wc)
  case first =>
    obtain ⟨ht, hsay⟩ := HSAY.out
    have h5 : ty = 1 ∨ ty = 2 ∨ ty = 3 ∨ ty = 4 ∨ ty = 5 := by unfold typedP at ht; omega
    clear HSAY hes CG h213 ht
    rcases h5 with rfl | rfl | rfl | rfl | rfl
    · obtain ⟨rfl, rfl, hn0, rfl⟩ := hsay.2.1 rfl
      obtain rfl : n = 0 := by omega
      clear hsay hn0
      go_wp2_with fail; go_meet; exact ⟨by first | rfl | (refine congrArg Value.bool ?_; simp <;> omega), rfl⟩
    · obtain ⟨hb, rfl, hn0, rfl⟩ := hsay.2.2.1 rfl
      obtain rfl : n = 0 := by omega
      have hb' : ¬ bo = 0 := by omega
      clear hsay hn0
      go_wp2_with fail; go_meet; exact ⟨by first | rfl | (refine congrArg Value.bool ?_; simp <;> omega), rfl⟩
    · obtain ⟨hb, hq⟩ := hsay.2.2.2.1 rfl
      have hb' : ¬ bo = 0 := by omega
      have hq' : 0 < sq := by omega
      clear hsay
      go_wp2_with fail; go_meet; exact ⟨by first | rfl | (refine congrArg Value.bool ?_; simp <;> omega), rfl⟩
    · obtain ⟨hb, rfl, hn0⟩ := hsay.2.2.2.2.1 rfl
      obtain rfl : n = 0 := by omega
      have hb' : ¬ bo = 0 := by omega
      clear hsay hn0
      go_wp2_with fail; go_meet; exact ⟨by first | rfl | (refine congrArg Value.bool ?_; simp <;> omega), rfl⟩
    · obtain ⟨rfl, hn0, rfl⟩ := hsay.2.2.2.2.2 rfl
      obtain rfl : n = 0 := by omega
      clear hsay hn0
      go_wp2_with fail; go_meet; exact ⟨by first | rfl | (refine congrArg Value.bool ?_; simp <;> omega), rfl⟩
  obtain ⟨rfl, rfl⟩ := hcut
  go_upto_region 11 with fail
  refine wp_world (fun wx => At wx w.heap.size [.int .i64 ty, .int .i64 se, .int .i64 bo, .int .i64 sq, .int .i64 ac, .slice a n c] ∧ At wx wc.heap.size [.int .i64 k, .int .i64 se, .int .i64 bo, .int .i64 sq, .int .i64 ac, .slice a n c] ∧ Kp (fun _ => False) w wx) ?_ ?_
  · exact ⟨K2.out.1.alloc _, At.new wc _ _, K2.out.2.alloc _⟩
  rintro w3 ⟨ha1, ha7, k3⟩
  clear K2 y0 y1 y2 y3 y4 y5
  have x0 := (ha1.cell 0).trans (show _ = some (.int .i64 ty) from rfl)
  have x1 := (ha1.cell 1).trans (show _ = some (.int .i64 se) from rfl)
  have x2 := (ha1.cell 2).trans (show _ = some (.int .i64 bo) from rfl)
  have x3 := (ha1.cell 3).trans (show _ = some (.int .i64 sq) from rfl)
  have x4 := (ha1.cell 4).trans (show _ = some (.int .i64 ac) from rfl)
  have x5 := (ha1.cell 5).trans (show _ = some (.slice a n c) from rfl)
  have z0 := (ha7.cell 0).trans (show _ = some (.int .i64 k) from rfl)
  have z1 := (ha7.cell 1).trans (show _ = some (.int .i64 se) from rfl)
  have z2 := (ha7.cell 2).trans (show _ = some (.int .i64 bo) from rfl)
  have z3 := (ha7.cell 3).trans (show _ = some (.int .i64 sq) from rfl)
  have z4 := (ha7.cell 4).trans (show _ = some (.int .i64 ac) from rfl)
  have z5 := (ha7.cell 5).trans (show _ = some (.slice a n c) from rfl)
  have K3 := Lib.hid (And.intro ha1 (And.intro ha7 k3))
  clear ha1 ha7 k3
  go_upto_region 12 with (go_at_call 14; (with_reducible refine (CG.out _).mono ?_); rintro e w4 ⟨rfl, k4⟩; have ha4 := k4.at K3.out.1 (fun h => h); have y0 := (ha4.cell 0).trans (show _ = some (.int .i64 ty) from rfl); have y1 := (ha4.cell 1).trans (show _ = some (.int .i64 se) from rfl); have y2 := (ha4.cell 2).trans (show _ = some (.int .i64 bo) from rfl); have y3 := (ha4.cell 3).trans (show _ = some (.int .i64 sq) from rfl); have y4 := (ha4.cell 4).trans (show _ = some (.int .i64 ac) from rfl); have y5 := (ha4.cell 5).trans (show _ = some (.slice a n c) from rfl); have K4 := Lib.hid (K3.out.2.2.trans k4); clear ha4 k4)
  have h7 : k < 1 ∨ (1 ≤ k ∧ 5 < k) ∨ k = 1 ∨ k = 2 ∨ k = 3 ∨ k = 4 ∨ k = 5 := by omega
  clear x0 x1 x2 x3 x4 x5 z0 z1 z2 z3 z4 z5 CG AW HSAY K3
  rcases h7 with h7 | ⟨h7, h7'⟩ | rfl | rfl | rfl | rfl | rfl
  · obtain rfl := h213.out (fun h => by unfold typedP at h; omega)
    go_wp2
    go_ret
    exact ⟨rfl, K4.out.below (fun _ _ h => h)⟩
  · obtain rfl := h213.out (fun h => by unfold typedP at h; omega)
    go_wp2
    go_ret
    exact ⟨rfl, K4.out.below (fun _ _ h => h)⟩
  all_goals
    have he := hes.out (by unfold typedP; omega)
    clear hes h213
    have HE := Lib.hid he
    clear he
    go_wp2
    all_goals
      have he := HE.out
      go_ret
      refine ⟨ret_bool ?_, K4.out.below (fun _ _ h => h)⟩
      clear y0 y1 y2 y3 y4 y5 HE K4
      unfold sayP at he
      split at he
      · rename_i hq
        subst he
        replace hq := of_decide_eq_false hq
        first | rfl | (exfalso; omega) | (simp at *; done) | (simp at *; omega) | (exfalso; simp at *; omega)
      · rename_i hq
        subst he
        replace hq := of_decide_eq_true (by simpa using hq)
        first | rfl | (exfalso; omega) | (simp at *; done) | (simp at *; omega) | (exfalso; simp at *; omega)
set_option maxRecDepth 20000 in
theorem types_out (f : Fr) (a : Option Addr) (c : Nat) (k : Int) (w : World) (hI : frI f) (hc : f.bd.length ≤ c) (hm : c ≤ 140737488351232) (he : errF f ≠ 0) :
    Calls Try.prog 8 #[.agg (frA f a c), .int .i64 k] w fun e w' => e = .returned (.bool true) ∧ Below w.heap.size w w' := by
  have AW := Lib.hid (fun w' => awake_any w')
  have CC := Lib.hid (fun w' => fcheck_any f a c w' (by omega) hI.1 hI.2.1 hI.2.2.1 hI.2.2.2)
  generalize errF f = er at *
  have h1 : (er == 0) = false := by simpa using he
  have h2 : (er != 0) = true := by simpa using he
  obtain ⟨ty, se, bo, sq, ac, bd⟩ := f
  dsimp only [frA] at *
  generalize bd.length = n at *
  clear hI hc hm he
  by_cases hn : (2000 : Int) < (n : Int)
  · go_enter Try.func8, Try.ntmps8
    go_wp2_with (first | (go_at_call 18; refine (AW.out _).mono ?_; rintro e w1 ⟨rfl, k1⟩; have ha1 := k1.at (At.new w [.int .i64 ty, .int .i64 se, .int .i64 bo, .int .i64 sq, .int .i64 ac, .slice a n c] 24) (fun h => h); have x0 := (ha1.cell 0).trans (show _ = some (.int .i64 ty) from rfl); have x1 := (ha1.cell 1).trans (show _ = some (.int .i64 se) from rfl); have x2 := (ha1.cell 2).trans (show _ = some (.int .i64 bo) from rfl); have x3 := (ha1.cell 3).trans (show _ = some (.int .i64 sq) from rfl); have x4 := (ha1.cell 4).trans (show _ = some (.int .i64 ac) from rfl); have x5 := (ha1.cell 5).trans (show _ = some (.slice a n c) from rfl); have K1 := Lib.hid (((Kp.refl (fun _ => False) w).alloc _).trans k1); clear ha1 k1))
    go_ret
    exact ⟨rfl, K1.out.below (fun _ _ h => h)⟩
  · go_enter Try.func8, Try.ntmps8
    go_wp2_with (first | (go_at_call 18; refine (AW.out _).mono ?_; rintro e w1 ⟨rfl, k1⟩; have ha1 := k1.at (At.new w [.int .i64 ty, .int .i64 se, .int .i64 bo, .int .i64 sq, .int .i64 ac, .slice a n c] 24) (fun h => h); have x0 := (ha1.cell 0).trans (show _ = some (.int .i64 ty) from rfl); have x1 := (ha1.cell 1).trans (show _ = some (.int .i64 se) from rfl); have x2 := (ha1.cell 2).trans (show _ = some (.int .i64 bo) from rfl); have x3 := (ha1.cell 3).trans (show _ = some (.int .i64 sq) from rfl); have x4 := (ha1.cell 4).trans (show _ = some (.int .i64 ac) from rfl); have x5 := (ha1.cell 5).trans (show _ = some (.slice a n c) from rfl); have K1 := Lib.hid (((Kp.refl (fun _ => False) w).alloc _).trans k1); clear ha1 k1) | (go_at_call 14; (with_reducible refine (CC.out _).mono ?_); rintro e w2 ⟨rfl, k2⟩; have K2 := Lib.hid (K1.out.trans k2); clear k2))
    go_ret
    exact ⟨rfl, K2.out.below (fun _ _ h => h)⟩
theorem frameTypes_walk (c0 : Array Value) (n1 : Int) (w : World) (r0 : Rdg Try.prog w 24 (Value.agg c0).cells.toList) (r1 : Rdg Try.prog w 3 (Value.int .i64 n1).cells.toList) :
    Calls Try.prog 8 #[.agg c0, .int .i64 n1] w fun e w' => e = .returned (.bool true) ∧ Below w.heap.size w w' := by
  obtain ⟨f, a, c, rfl, hI, _, hr, hc, hm⟩ := open_frame r0
  obtain ⟨k, e1, hk⟩ := Rdg.int Try.underlying3 r1
  have e2 : n1 = k := by have : [Value.int .i64 n1] = [.int .i64 k] := e1; simpa using this
  subst e2
  by_cases he : errF f = 0
  · exact types_main f a c n1 w hI (wf_i64 hk) he
  · exact types_out f a c n1 w hI hc hm he
end Go.Proofs.Ytjjoancnkjlaeaa
