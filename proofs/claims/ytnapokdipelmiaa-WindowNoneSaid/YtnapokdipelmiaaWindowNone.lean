/- WindowNone: the walk. (Written by wip/winnone.py.) -/
import Derived.Test.YtnapokdipelmiaaWnG
import Derived.Test.YtnapokdipelmiaaWnO
namespace Go.Proofs.Ytnapokdipelmiaa
open Go.RowKit Flt
set_option linter.unusedVariables false
set_option linter.unusedSimpArgs false
set_option maxHeartbeats 2000000 in
set_option maxRecDepth 20000 in
theorem windowNone_walk (c0 : Array Value) (w : World) (r0 : Rdg Try.prog w 43 (Value.agg c0).cells.toList) :
    Calls Try.prog 7 #[.agg c0] w fun e w' => e = .returned (.bool true) ∧ Below w.heap.size w w' := by
  obtain ⟨⟨kd, n, now, pa, cap, body⟩, e, hr⟩ := open_ac r0
  have e : c0.toList = _ := e
  obtain rfl : c0 = #[.int .i64 kd, .int .i64 n, .int .i64 now, .slice pa body.length cap] := Array.toList_inj.1 (by rw [e]; rfl)
  have hl1 : hr.2.2.2.2.1 = hr.2.2.2.2.1 := rfl
  obtain ⟨bx, hbx⟩ : ∃ bx, bx = w.heap.size := ⟨_, rfl⟩
  obtain ⟨w1, hw1⟩ : ∃ w1, w1 = w.alloc (.cells #[.int .i64 kd, .int .i64 n, .int .i64 now, .slice pa body.length cap] 43) := ⟨_, rfl⟩
  obtain ⟨w2, hw2⟩ : ∃ w2, w2 = w1.alloc (.cells #[.int .i64 kd, .int .i64 n, .int .i64 now, .slice pa body.length cap] 43) := ⟨_, rfl⟩
  have k1 : Kp (fun _ => False) w w1 := by rw [hw1]; exact (Kp.refl _ w).alloc _
  have k2 : Kp (fun _ => False) w1 w2 := by rw [hw2]; exact (Kp.refl _ w1).alloc _
  have a1 : At w1 bx [.int .i64 kd, .int .i64 n, .int .i64 now, .slice pa body.length cap] := by rw [hw1, hbx]; exact At.new w _ _
  have a2 : At w2 w1.heap.size [.int .i64 kd, .int .i64 n, .int .i64 now, .slice pa body.length cap] := by rw [hw2]; exact At.new w1 _ _
  have hra : RdA w2 (some ⟨w1.heap.size, 0, none⟩) [⟨kd, n, now, pa, cap, body⟩] := fun i hi => by
    obtain rfl : i = 0 := by simp at hi; omega
    exact ⟨hr.kp0 (k1.trans k2), w1.heap.size, 0, rfl, a2.cell 0, a2.cell 1, a2.cell 2, a2.cell 3⟩
  have CL := long_any (some ⟨w1.heap.size, 0, none⟩) 1 1 [⟨kd, n, now, pa, cap, body⟩] rfl w2 hra (by omega)
  rw [hw2] at CL
  have hs1 : w1.heap.size = w.heap.size + 1 := by rw [hw1]; simp
  rw [hw1, World.size_alloc] at CL
  obtain ⟨lb, hlb⟩ : ∃ lb, lb = body.length := ⟨_, rfl⟩
  rw [← hlb] at CL a1 hw1 hw2 ⊢
  have KK := Lib.hid (k1.trans k2)
  have A1 := Lib.hid (k2.at a1 (fun h => h))
  have HW := Lib.hid (And.intro hw1 (And.intro hw2 hbx))
  have hf : (FloatKind.f64.format.order 0 0 != some .eq) = false := by decide +kernel
  clear k1 k2 a1 a2 hra hr e r0 hl1 hw1 hw2 hbx hlb hs1
  cases hB : longB [⟨kd, n, now, pa, cap, body⟩]
  · rw [hB] at CL
    have CL := Lib.hid CL
    clear hB
    go_enter Try.func7, Try.ntmps7
    go_wp2_with fail
    go_at_call 16
    refine CL.out.mono ?_
    rintro e w3 ⟨rfl, k3⟩
    have k03 : Kp (fun _ => False) w w3 := by
      have := KK.out
      rw [HW.out.2.1, HW.out.1] at this
      exact this.trans k3
    have a3 : At w3 w.heap.size [.int .i64 kd, .int .i64 n, .int .i64 now, .slice pa lb cap] := by
      have := A1.out
      rw [HW.out.2.1, HW.out.1, HW.out.2.2] at this
      exact k3.at this (fun h => h)
    have K3 := Lib.hid (And.intro k03 a3)
    clear CL k3 k03 a3
    go_wp2_with fail
    obtain ⟨g, hg⟩ : ∃ g, g = w3.heap.size := ⟨_, rfl⟩
    obtain ⟨al, hal⟩ : ∃ al, al = g + 1 := ⟨_, rfl⟩
    obtain ⟨w5, hw5⟩ : ∃ w5, w5 = (w3.alloc (.cells #[.int .i64 0, .int .i64 0, .slice none 0 0, .float .f64 0, .float .f64 0, .int .i64 0] 54)).alloc (.cells #[.pointer none, .pointer (some ⟨w3.heap.size, 0, none⟩)] 24) := ⟨_, rfl⟩
    have z5 : w5.cell? ⟨g, 0, none⟩ = some (.int .i64 0) := by rw [hw5, hg]; exact ((At.new w3 [.int .i64 0, .int .i64 0, .slice none 0 0, .float .f64 0, .float .f64 0, .int .i64 0] _).alloc _).cell 0
    have p5 : At w5 al [.pointer none, .pointer (some ⟨g, 0, none⟩)] := by
      have := At.new (w3.alloc (.cells #[.int .i64 0, .int .i64 0, .slice none 0 0, .float .f64 0, .float .f64 0, .int .i64 0] 54)) [.pointer none, .pointer (some ⟨w3.heap.size, 0, none⟩)] 24
      rw [World.size_alloc] at this
      rw [hw5, hal, hg]
      exact this
    have k5 : Kp (fun _ => False) w3 w5 := by rw [hw5]; exact ((Kp.refl _ w3).alloc _).alloc _
    have a5 : At w5 w.heap.size [.int .i64 kd, .int .i64 n, .int .i64 now, .slice pa lb cap] := k5.at K3.out.2 (fun h => h)
    rw [← hw5, ← hg, ← hal]
    obtain ⟨bx, hbx⟩ : ∃ bx, bx = w.heap.size := ⟨_, rfl⟩
    rw [← hbx] at a5 ⊢
    have H5 := Lib.hid (And.intro z5 (And.intro p5 (And.intro a5 (K3.out.1.trans k5))))
    have HBX := Lib.hid hbx
    clear hg hal hw5 z5 p5 k5 a5 hbx KK A1 HW
    go_loopw [4] (fun iv wr => ∃ i : Nat, i ≤ 2 ∧ iv = .int .i64 i ∧ Kp (fun _ => False) w5 wr) (fun iv _ => 2 - (intOf iv).toNat)
    case atStart => exact ⟨0, by omega, rfl, Kp.refl _ _⟩
    case round =>
      obtain ⟨i, hi, rfl, hk⟩ := hrel
      have HK := Lib.hid hk
      by_cases h0 : i = 0
      · subst h0
        have cp := hk.cell ((H5.out.2.1.cell 0).trans (show _ = some (.pointer none) from rfl)) (fun h => h)
        have x1 := hk.cell ((H5.out.2.2.1.cell 1).trans (show _ = some (.int .i64 n) from rfl)) (fun h => h)
        have x2 := hk.cell ((H5.out.2.2.1.cell 2).trans (show _ = some (.int .i64 now) from rfl)) (fun h => h)
        have x3 := hk.cell ((H5.out.2.2.1.cell 3).trans (show _ = some (.slice pa lb cap) from rfl)) (fun h => h)
        clear hk
        go_wp2_with (first | (go_at_call 11; refine (wpush_nil _ _ _ _).mono ?_; rintro e w' ⟨rfl, rfl⟩) | (go_at_call 12; refine (wack_nil _ _ _).mono ?_; rintro e w' ⟨rfl, rfl⟩) | (go_at_call 18; refine (wwhen_nil _).mono ?_; rintro e w' ⟨rfl, rfl⟩) | (go_at_call 21; refine (wtimes_nil _).mono ?_; rintro e w' ⟨rfl, rfl⟩) | (go_at_call 13; refine (wdue_nil _ _).mono ?_; rintro e w' ⟨rfl, rfl⟩) | (go_at_call 15; refine (wopen_nil _).mono ?_; rintro e w' ⟨rfl, rfl⟩) | (go_at_call 17; refine (wlast_nil _).mono ?_; rintro e w' ⟨rfl, rfl⟩))
        go_roundw
        case rel => exact ⟨1, by omega, by go_num, HK.out⟩
        case measure => simp [intOf]
      · by_cases h1 : i = 1
        · subst h1
          have cp := hk.cell ((H5.out.2.1.cell 1).trans (show _ = some (.pointer (some ⟨g, 0, none⟩)) from rfl)) (fun h => h)
          have x1 := hk.cell ((H5.out.2.2.1.cell 1).trans (show _ = some (.int .i64 n) from rfl)) (fun h => h)
          have x2 := hk.cell ((H5.out.2.2.1.cell 2).trans (show _ = some (.int .i64 now) from rfl)) (fun h => h)
          have x3 := hk.cell ((H5.out.2.2.1.cell 3).trans (show _ = some (.slice pa lb cap) from rfl)) (fun h => h)
          have hz := hk.cell H5.out.1 (fun h => h)
          clear hk
          go_wp2_with (first | (go_at_call 11; refine (wpush_un _ _ _ _ g hz).mono ?_; rintro e w' ⟨rfl, rfl⟩) | (go_at_call 12; refine (wack_un _ _ _ g hz).mono ?_; rintro e w' ⟨rfl, rfl⟩) | (go_at_call 18; refine (wwhen_un _ g hz).mono ?_; rintro e w' ⟨rfl, rfl⟩) | (go_at_call 21; refine (wtimes_un _ g hz).mono ?_; rintro e w' ⟨rfl, rfl⟩) | (go_at_call 13; refine (wdue_un _ _ g hz).mono ?_; rintro e w' ⟨rfl, rfl⟩) | (go_at_call 15; refine (wopen_none _ g hz).mono ?_; rintro e w' ⟨rfl, rfl⟩) | (go_at_call 17; refine (wlast_un _ g hz).mono ?_; rintro e w' ⟨rfl, rfl⟩))
          go_roundw
          case rel => exact ⟨2, by omega, by go_num, HK.out⟩
          case measure => simp [intOf]
        · obtain rfl : i = 2 := by omega
          clear hk h0 h1 hi
          go_wp2_with fail
          go_at_call 8
          refine (awake_any _).mono ?_
          rintro e w6 ⟨rfl, k6⟩
          have K6 := Lib.hid k6
          clear k6
          go_wp2_with fail
          go_ret
          exact ⟨rfl, ((H5.out.2.2.2.trans HK.out).trans K6.out).below (fun _ _ h => h)⟩
  · rw [hB] at CL
    have CL := Lib.hid CL
    clear hB
    go_enter Try.func7, Try.ntmps7
    go_wp2_with fail
    go_at_call 16
    refine CL.out.mono ?_
    rintro e w3 ⟨rfl, k3⟩
    have k03 : Kp (fun _ => False) w w3 := by
      have := KK.out
      rw [HW.out.2.1, HW.out.1] at this
      exact this.trans k3
    have K3 := Lib.hid k03
    clear CL k3 k03
    go_wp2_with fail
    go_at_call 8
    refine (awake_any _).mono ?_
    rintro e w4 ⟨rfl, k4⟩
    have K4 := Lib.hid k4
    clear k4
    go_wp2_with fail
    go_ret
    exact ⟨rfl, (K3.out.trans K4.out).below (fun _ _ h => h)⟩
end Go.Proofs.Ytnapokdipelmiaa
