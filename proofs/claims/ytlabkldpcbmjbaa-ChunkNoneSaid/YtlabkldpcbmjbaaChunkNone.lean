/- The walk of ChunkNone: it returns true, whatever comes in. No condition. (Written by wip/chknone.py.) -/
import Derived.Test.YtlabkldpcbmjbaaChkY
import Derived.Test.YtlabkldpcbmjbaaOpen
namespace Go.Proofs.Ytlabkldpcbmjbaa
open Go.RowKit
set_option linter.unusedVariables false
set_option linter.unusedSimpArgs false
set_option maxHeartbeats 4000000 in
set_option maxRecDepth 20000 in
theorem none_main (a : Option Addr) (n cap : Nat) (w : World) (hn : n ≤ 140737488351232) :
    Calls Try.prog 5 #[.slice a n cap] w fun e w' => e = .returned (.bool true) ∧ Below w.heap.size w w' := by
  have AW := Lib.hid (fun w' => awake_any w')
  by_cases hlg : 3000 < n
  · have i1 : (3000 : Int) < (n : Int) := by omega
    go_enter Try.func5, Try.ntmps5
    go_wp2_with (go_at_call 20; (with_reducible refine (AW.out _).mono ?_); rintro e w9 ⟨rfl, k9⟩; have H9 := Lib.hid k9; clear k9)
    go_ret
    exact ⟨rfl, H9.out.below (fun _ _ h => h)⟩
  · have i1 : ¬ (3000 : Int) < (n : Int) := by omega
    go_enter Try.func5, Try.ntmps5
    go_upto_region 4 with fail
    refine wp_world (fun wx => At wx w.heap.size [.int .u8 0, .int .u8 0, .int .u8 0, .int .u8 0, .int .u8 0, .int .u8 0, .int .u8 0, .int .u8 0, .int .u8 0, .int .u8 0, .int .u8 0, .int .u8 0, .int .u8 0, .int .u8 0, .int .u8 0, .int .u8 0, .int .i64 0, .int .u32 0, .bool false, .int .i64 0, .slice none 0 0, .bool false, .bool false] ∧ At wx (w.heap.size + 1) [.pointer none, .pointer (some ⟨w.heap.size, 0, none⟩)] ∧ Kp (fun _ => False) w wx) ⟨(At.new w [.int .u8 0, .int .u8 0, .int .u8 0, .int .u8 0, .int .u8 0, .int .u8 0, .int .u8 0, .int .u8 0, .int .u8 0, .int .u8 0, .int .u8 0, .int .u8 0, .int .u8 0, .int .u8 0, .int .u8 0, .int .u8 0, .int .i64 0, .int .u32 0, .bool false, .int .i64 0, .slice none 0 0, .bool false, .bool false] _).alloc _, by have := At.new (w.alloc (.cells #[.int .u8 0, .int .u8 0, .int .u8 0, .int .u8 0, .int .u8 0, .int .u8 0, .int .u8 0, .int .u8 0, .int .u8 0, .int .u8 0, .int .u8 0, .int .u8 0, .int .u8 0, .int .u8 0, .int .u8 0, .int .u8 0, .int .i64 0, .int .u32 0, .bool false, .int .i64 0, .slice none 0 0, .bool false, .bool false] 56)) [.pointer none, .pointer (some ⟨w.heap.size, 0, none⟩)] 37; rwa [World.size_alloc] at this, ((Kp.refl _ w).alloc _).alloc _⟩ ?_
    rintro w1 ⟨hz, hl, k1⟩
    have H1 := Lib.hid (And.intro hz (And.intro hl k1))
    clear hz hl k1
    go_wp2_with fail
    go_loopw [4] (fun i wr => ∃ k : Nat, k ≤ 2 ∧ i = .int .i64 k ∧ Kp (fun _ => False) w1 wr) (fun i _ => 2 - (intOf i).toNat)
    case atStart => exact ⟨0, by omega, rfl, Kp.refl _ _⟩
    case round =>
      obtain ⟨k, hk, rfl, hkp⟩ := hrel
      match k, hk with
      | 0, _ =>
        have x0 := hkp.cell ((H1.out.2.1.cell 0).trans (show _ = some (.pointer none) from rfl)) (fun h => h)
        have CP := Lib.hid (fun w' => push_no none a n cap 1 (.inl rfl) w' (fun w'' k' => out_nil w''))
        have CE := Lib.hid (fun w' => end_no none 1 (.inl rfl) w' (out_nil w'))
        have CL := Lib.hid (fun w' => left_nil w')
        have HK := Lib.hid hkp
        clear hkp
        go_wp2_with (first | (go_at_call 26; (with_reducible refine (CP.out _).mono ?_); rintro e w3 ⟨rfl, k3⟩; have x3 := k3.cell x0 (fun h => h); have K3 := Lib.hid k3; clear k3) | (go_at_call 22; (with_reducible refine (CE.out _).mono ?_); rintro e w' ⟨rfl, rfl⟩) | (go_at_call 25; (with_reducible refine (CL.out _).mono ?_); rintro e w' ⟨rfl, rfl⟩))
        go_roundw
        case rel => exact ⟨0 + 1, by omega, by simp, HK.out.trans K3.out⟩
        case measure => simp [intOf]
      | 1, _ =>
        have x0 := hkp.cell ((H1.out.2.1.cell 1).trans (show _ = some (.pointer (some ⟨w.heap.size, 0, none⟩)) from rfl)) (fun h => h)
        have HZ := Lib.hid (fun w' (k : Kp (fun _ => False) wr w') => (hkp.trans k).at H1.out.1 (fun h => h))
        have CO := Lib.hid (fun w' (k : Kp (fun _ => False) wr w') => out_cells w.heap.size false false w' (((HZ.out w' k).cell 21).trans rfl) (((HZ.out w' k).cell 22).trans rfl))
        have CP := Lib.hid (fun w' (k : Kp (fun _ => False) wr w') => push_no (some ⟨w.heap.size, 0, none⟩) a n cap 1 (.inl rfl) w' (fun w'' k' => CO.out w'' (k.trans k')))
        have CE := Lib.hid (fun w' (k : Kp (fun _ => False) wr w') => end_no (some ⟨w.heap.size, 0, none⟩) 1 (.inl rfl) w' (CO.out w' k))
        have CL := Lib.hid (fun w' (k : Kp (fun _ => False) wr w') => left_cells w.heap.size none 0 0 w' (((HZ.out w' k).cell 20).trans rfl))
        have HK := Lib.hid hkp
        clear hkp
        go_wp2_with (first | (go_at_call 26; (with_reducible refine (CP.out _ (Kp.refl _ _)).mono ?_); rintro e w3 ⟨rfl, k3⟩; have x3 := k3.cell x0 (fun h => h); have K3 := Lib.hid k3; clear k3) | (go_at_call 22; (with_reducible refine (CE.out _ K3.out).mono ?_); rintro e w' ⟨rfl, rfl⟩) | (go_at_call 25; (with_reducible refine (CL.out _ K3.out).mono ?_); rintro e w' ⟨rfl, rfl⟩))
        go_roundw
        case rel => exact ⟨1 + 1, by omega, by simp, HK.out.trans K3.out⟩
        case measure => simp [intOf]
      | 2, _ =>
        have HK := Lib.hid hkp
        clear hkp
        go_wp2_with (go_at_call 20; (with_reducible refine (AW.out _).mono ?_); rintro e w9 ⟨rfl, k9⟩; have H9 := Lib.hid k9; clear k9)
        go_ret
        exact ⟨rfl, ((H1.out.2.2.trans HK.out).trans H9.out).below (fun _ _ h => h)⟩
theorem chunkNone_walk (a0 : Option Addr) (len0 cap0 : Nat) (w : World) (r0 : Rdg Try.prog w 22 [.slice a0 len0 cap0]) :
    Calls Try.prog 5 #[.slice a0 len0 cap0] w fun e w' => e = .returned (.bool true) ∧ Below w.heap.size w w' := by
  obtain ⟨_, l, _, e0, h, h1, h2⟩ := r0.bytes Try.underlying22 Try.underlying5 (by kernel_rfl) (by kernel_rfl)
  simp only [List.cons.injEq, Value.slice.injEq, and_true] at e0
  obtain ⟨rfl, rfl, rfl⟩ := e0
  exact none_main a0 l.length cap0 w (by omega)
end Go.Proofs.Ytlabkldpcbmjbaa
