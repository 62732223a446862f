/- The walk of NetNone: it returns true, whatever comes in. No condition. (Written by wip/netnone.py.) -/
import Derived.Test.YtgcgcdgjooaipaaNetO
namespace Go.Proofs.Ytgcgcdgjooaipaa
open Go.RowKit Go.Maps
set_option linter.unusedVariables false
set_option linter.unusedSimpArgs false
theorem lost_none (p : Option Addr) (w : World) (hno : ∀ w', Kp (fun _ => False) w w' → Calls Try.prog 31 #[.pointer p] w' fun e w'' => e = .returned (.bool true) ∧ w' = w'') :
    Calls Try.prog 20 #[.pointer p] w fun e w' => e = .returned (.int .i64 0) ∧ w = w' := by
  have HN := Lib.hid hno
  clear hno
  go_enter Try.func20, Try.ntmps20
  go_wp2_with (go_at_call 31; (with_reducible refine (HN.out _ (Kp.refl _ w)).mono ?_); rintro e w' ⟨rfl, rfl⟩)
  go_ret
  exact ⟨rfl, rfl⟩
theorem zero_net (w : World) : (Instr.build 61 #[]).run Try.prog w = .ok (.agg #[.bool false, .int .i64 0, .int .i64 0, .slice none 0 0, .pointer none, .int .i64 0, .map none, .int .i64 0]) w := by kernel_rfl
set_option maxHeartbeats 4000000 in
set_option maxRecDepth 20000 in
theorem none_main (fr to : Int) (a : Option Addr) (m c : Nat) (n1 n2 : Int) (w : World) (hm : m ≤ 100) :
    Calls Try.prog 7 #[.agg #[.int .i64 fr, .int .i64 to, .slice a m c], .int .i64 n1, .int .i64 n2] w fun e w' => e = .returned (.bool true) ∧ Below w.heap.size w w' := by
  have AW := Lib.hid (fun w' => awake_any w')
  have HZ := Lib.hid zero_net
  have hzz := fun w' => HZ.out w'
  have b1 : ¬ (100 : Int) < (m : Int) := by omega
  go_enter Try.func7, Try.ntmps7
  go_wp2_with fail
  refine wp_world (fun wx => At wx w.heap.size (dgC fr to (.slice a m c)) ∧ wx.cell? ⟨w.heap.size + 1, 0, none⟩ = some (.bool false) ∧ At wx (w.heap.size + 1 + 1) [.pointer none, .pointer (some ⟨w.heap.size + 1, 0, none⟩)] ∧ Kp (fun _ => False) w wx) ⟨((At.new w (dgC fr to (.slice a m c)) 28).alloc _).alloc _, ((((At.new2 w _ [.bool false, .int .i64 0, .int .i64 0, .slice none 0 0, .pointer none, .int .i64 0, .map none, .int .i64 0] 61).alloc _).cell 0).trans rfl), At.new3 w _ _ [.pointer none, .pointer (some ⟨w.heap.size + 1, 0, none⟩)] 24, (((Kp.refl _ w).alloc _).alloc _).alloc _⟩ ?_
  rintro w0 ⟨h0, h1, h2, h3⟩
  obtain ⟨b0, hb0⟩ : ∃ b0, b0 = w.heap.size := ⟨_, rfl⟩
  rw [← hb0] at h0 h1 h2 ⊢
  have KPX := Lib.hid (fun w' (k : Kp (fun _ => False) w0 w') => k.at h0 (fun h => h))
  have H := Lib.hid (And.intro h1 (And.intro h2 h3))
  clear hb0 h0 h1 h2 h3
  go_loopw [9] (fun i wr => ∃ k : Nat, k ≤ 2 ∧ i = .int .i64 k ∧ Kp (fun _ => False) w0 wr) (fun i _ => 2 - (intOf i).toNat)
  case atStart => exact ⟨0, by omega, rfl, Kp.refl _ _⟩
  case round =>
    obtain ⟨k, hk2, rfl, hkp⟩ := hrel
    have hrow := hkp.at H.out.2.1 (fun h => h)
    have hcr := hrow.cell k
    have hbx := KPX.out _ hkp
    obtain ⟨y0, y1, y2, _⟩ := dg_cells hbx
    have hbz : b0 < wr.heap.size := hbx.lt
    have KP := Lib.hid hkp
    have hk : k = 0 ∨ k = 1 ∨ k = 2 := by omega
    clear hkp hrow hbx
    rcases hk with hk | hk | hk
    · have hc : wr.cell? ⟨b0 + 1 + 1, 0, none⟩ = some (.pointer none) := by subst hk; exact hcr.trans rfl
      rw [show (k : Int) = 0 by omega]
      clear hcr
      have NO := Lib.hid (fun w' (k : Kp (fun _ => False) w0 w') => none_nil w')
      have CT := Lib.hid (fun w' (k : Kp (fun _ => False) w0 w') => take_none none n1 w' (fun w'' k' => NO.out w'' (k.trans k')))
      have CS := Lib.hid (fun w' (k : Kp (fun _ => False) w0 w') => send_none none fr to a m c w' (fun w'' k' => NO.out w'' (k.trans k')))
      have CD := Lib.hid (fun w' (k : Kp (fun _ => False) w0 w') => drop_none none n1 w' (fun w'' k' => NO.out w'' (k.trans k')))
      have CC := Lib.hid (fun w' (k : Kp (fun _ => False) w0 w') => copy_none none n1 w' (fun w'' k' => NO.out w'' (k.trans k')))
      have CR := Lib.hid (fun w' (k : Kp (fun _ => False) w0 w') => turn_none none n1 n2 w' (fun w'' k' => NO.out w'' (k.trans k')))
      have CW := Lib.hid (fun w' (k : Kp (fun _ => False) w0 w') => swap_none none n1 n2 w' (fun w'' k' => NO.out w'' (k.trans k')))
      have CU := Lib.hid (fun w' (k : Kp (fun _ => False) w0 w') => cut_none none n1 n2 true w' (fun w'' k' => NO.out w'' (k.trans k')))
      have CA := Lib.hid (fun w' (k : Kp (fun _ => False) w0 w') => waiting_none none w' (fun w'' k' => NO.out w'' (k.trans k')))
      have CL := Lib.hid (fun w' (k : Kp (fun _ => False) w0 w') => lost_none none w' (fun w'' k' => NO.out w'' (k.trans k')))
      go_wp2_with (first | (go_at_call 24; (with_reducible refine (CT.out _ KP.out).mono ?_); rintro e xT ⟨rfl, kT⟩; have KTake := Lib.hid (KP.out.trans (kT.alloc (.cells #[.int .i64 0, .int .i64 0, .slice none 0 0] 28))); have hbx := (kT.at (KPX.out _ KP.out) (fun h => h)); have hbl : b0 < xT.heap.size := hbx.lt; obtain ⟨x0, x1, x2, _⟩ := dg_cells hbx; clear kT) | (go_at_call 11; (with_reducible refine (CS.out _ KTake.out).mono ?_); rintro e xSend ⟨rfl, kSend⟩; have KSend := Lib.hid (KTake.out.trans kSend); have z := kSend.at (At.new xT (dgC 0 0 (.slice none 0 0)) 28) (fun h => h); obtain ⟨z0, z1, z2, _⟩ := dg_cells z; clear kSend) | (go_at_call 23; (with_reducible refine (CD.out _ KSend.out).mono ?_); rintro e xDrop ⟨rfl, kDrop⟩; have KDrop := Lib.hid (KSend.out.trans kDrop); clear kDrop) | (go_at_call 29; (with_reducible refine (CC.out _ KDrop.out).mono ?_); rintro e xCopy ⟨rfl, kCopy⟩; have KCopy := Lib.hid (KDrop.out.trans kCopy); clear kCopy) | (go_at_call 17; (with_reducible refine (CR.out _ KCopy.out).mono ?_); rintro e xTurn ⟨rfl, kTurn⟩; have KTurn := Lib.hid (KCopy.out.trans kTurn); clear kTurn) | (go_at_call 16; (with_reducible refine (CW.out _ KTurn.out).mono ?_); rintro e xSwap ⟨rfl, kSwap⟩; have KSwap := Lib.hid (KTurn.out.trans kSwap); clear kSwap) | (go_at_call 18; (with_reducible refine (CU.out _ KSwap.out).mono ?_); rintro e xCut ⟨rfl, kCut⟩; have KCut := Lib.hid (KSwap.out.trans kCut); clear kCut) | (go_at_call 13; (with_reducible refine (CA.out _ KCut.out).mono ?_); rintro e w' ⟨rfl, rfl⟩) | (go_at_call 20; (with_reducible refine (CL.out _ KCut.out).mono ?_); rintro e w' ⟨rfl, rfl⟩))
      go_roundw
      case rel => exact ⟨k + 1, by omega, by subst hk; rfl, KCut.out⟩
      case measure => subst hk; simp [intOf]
    · have hc : wr.cell? ⟨b0 + 1 + 1, 1, none⟩ = some (.pointer (some ⟨b0 + 1, 0, none⟩)) := by subst hk; exact hcr.trans rfl
      rw [show (k : Int) = 1 by omega]
      clear hcr
      have NO := Lib.hid (fun w' (k : Kp (fun _ => False) w0 w') => none_off (b0 + 1) w' (k.cell H.out.1 (fun h => h)))
      have CT := Lib.hid (fun w' (k : Kp (fun _ => False) w0 w') => take_none (some ⟨b0 + 1, 0, none⟩) n1 w' (fun w'' k' => NO.out w'' (k.trans k')))
      have CS := Lib.hid (fun w' (k : Kp (fun _ => False) w0 w') => send_none (some ⟨b0 + 1, 0, none⟩) fr to a m c w' (fun w'' k' => NO.out w'' (k.trans k')))
      have CD := Lib.hid (fun w' (k : Kp (fun _ => False) w0 w') => drop_none (some ⟨b0 + 1, 0, none⟩) n1 w' (fun w'' k' => NO.out w'' (k.trans k')))
      have CC := Lib.hid (fun w' (k : Kp (fun _ => False) w0 w') => copy_none (some ⟨b0 + 1, 0, none⟩) n1 w' (fun w'' k' => NO.out w'' (k.trans k')))
      have CR := Lib.hid (fun w' (k : Kp (fun _ => False) w0 w') => turn_none (some ⟨b0 + 1, 0, none⟩) n1 n2 w' (fun w'' k' => NO.out w'' (k.trans k')))
      have CW := Lib.hid (fun w' (k : Kp (fun _ => False) w0 w') => swap_none (some ⟨b0 + 1, 0, none⟩) n1 n2 w' (fun w'' k' => NO.out w'' (k.trans k')))
      have CU := Lib.hid (fun w' (k : Kp (fun _ => False) w0 w') => cut_none (some ⟨b0 + 1, 0, none⟩) n1 n2 true w' (fun w'' k' => NO.out w'' (k.trans k')))
      have CA := Lib.hid (fun w' (k : Kp (fun _ => False) w0 w') => waiting_none (some ⟨b0 + 1, 0, none⟩) w' (fun w'' k' => NO.out w'' (k.trans k')))
      have CL := Lib.hid (fun w' (k : Kp (fun _ => False) w0 w') => lost_none (some ⟨b0 + 1, 0, none⟩) w' (fun w'' k' => NO.out w'' (k.trans k')))
      go_wp2_with (first | (go_at_call 24; (with_reducible refine (CT.out _ KP.out).mono ?_); rintro e xT ⟨rfl, kT⟩; have KTake := Lib.hid (KP.out.trans (kT.alloc (.cells #[.int .i64 0, .int .i64 0, .slice none 0 0] 28))); have hbx := (kT.at (KPX.out _ KP.out) (fun h => h)); have hbl : b0 < xT.heap.size := hbx.lt; obtain ⟨x0, x1, x2, _⟩ := dg_cells hbx; clear kT) | (go_at_call 11; (with_reducible refine (CS.out _ KTake.out).mono ?_); rintro e xSend ⟨rfl, kSend⟩; have KSend := Lib.hid (KTake.out.trans kSend); have z := kSend.at (At.new xT (dgC 0 0 (.slice none 0 0)) 28) (fun h => h); obtain ⟨z0, z1, z2, _⟩ := dg_cells z; clear kSend) | (go_at_call 23; (with_reducible refine (CD.out _ KSend.out).mono ?_); rintro e xDrop ⟨rfl, kDrop⟩; have KDrop := Lib.hid (KSend.out.trans kDrop); clear kDrop) | (go_at_call 29; (with_reducible refine (CC.out _ KDrop.out).mono ?_); rintro e xCopy ⟨rfl, kCopy⟩; have KCopy := Lib.hid (KDrop.out.trans kCopy); clear kCopy) | (go_at_call 17; (with_reducible refine (CR.out _ KCopy.out).mono ?_); rintro e xTurn ⟨rfl, kTurn⟩; have KTurn := Lib.hid (KCopy.out.trans kTurn); clear kTurn) | (go_at_call 16; (with_reducible refine (CW.out _ KTurn.out).mono ?_); rintro e xSwap ⟨rfl, kSwap⟩; have KSwap := Lib.hid (KTurn.out.trans kSwap); clear kSwap) | (go_at_call 18; (with_reducible refine (CU.out _ KSwap.out).mono ?_); rintro e xCut ⟨rfl, kCut⟩; have KCut := Lib.hid (KSwap.out.trans kCut); clear kCut) | (go_at_call 13; (with_reducible refine (CA.out _ KCut.out).mono ?_); rintro e w' ⟨rfl, rfl⟩) | (go_at_call 20; (with_reducible refine (CL.out _ KCut.out).mono ?_); rintro e w' ⟨rfl, rfl⟩))
      go_roundw
      case rel => exact ⟨k + 1, by omega, by subst hk; rfl, KCut.out⟩
      case measure => subst hk; simp [intOf]
    · rw [show (k : Int) = 2 by omega]
      clear hcr
      go_wp2_with (go_at_call 9; (with_reducible refine (AW.out _).mono ?_); rintro e wz ⟨rfl, kz⟩; have KZ := Lib.hid kz; clear kz)
      go_ret
      exact ⟨rfl, (H.out.2.2.trans (KP.out.trans KZ.out)).below (fun _ _ h => h)⟩
theorem netNone_walk (c0 : Array Value) (n1 n2 : Int) (w : World) (r0 : Rdg Try.prog w 28 (Value.agg c0).cells.toList) (r1 : Rdg Try.prog w 3 (Value.int .i64 n1).cells.toList) (r2 : Rdg Try.prog w 3 (Value.int .i64 n2).cells.toList) :
    Calls Try.prog 7 #[.agg c0, .int .i64 n1, .int .i64 n2] w fun e w' => e = .returned (.bool true) ∧ Below w.heap.size w w' := by
  obtain ⟨fr, to, a, l, c, e0, hr, hc, hm⟩ := open_dg r0
  obtain rfl : c0 = #[.int .i64 fr, .int .i64 to, .slice a l.length c] := by
    have e1 : c0.toList = dgC fr to (.slice a l.length c) := e0
    exact Array.toList_inj.1 e1
  by_cases hl : l.length ≤ 100
  · exact none_main fr to a l.length c n1 n2 w hl
  · generalize l.length = m at *
    have b1 : (100 : Int) < (m : Int) := by omega
    have AW := Lib.hid (fun w' => awake_any w')
    clear r0 r1 r2 e0 hr
    go_enter Try.func7, Try.ntmps7
    go_wp2_with (go_at_call 9; (with_reducible refine (AW.out _).mono ?_); rintro e wz ⟨rfl, kz⟩; have KZ := Lib.hid kz; clear kz)
    go_ret
    exact ⟨rfl, (((Kp.refl (fun _ => False) w).alloc _).trans KZ.out).below (fun _ _ h => h)⟩
end Go.Proofs.Ytgcgcdgjooaipaa
