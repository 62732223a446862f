/- The walk of RollForgets: it returns true, whatever comes in. No condition. -/
import Derived.Test.YtpliilaoahepbaaRollSums
import Derived.Test.YtpliilaoahepbaaRollI
namespace Go.Proofs.Ytpliilaoahepbaa
open Go.RowKit
set_option linter.unusedVariables false
theorem rollForgets_early (a0 : Option Addr) (len0 cap0 : Nat) (a1 : Option Addr) (len1 cap1 : Nat) (a2 : Option Addr) (len2 cap2 : Nat) (w : World)
    (h0 : len0 ≤ 9223372036854775807) (h1 : len1 ≤ 9223372036854775807) (h2 : len2 ≤ 9223372036854775807)
    (h : 500 < len0 ∨ (len0 ≤ 500 ∧ 500 < len1) ∨ (len0 ≤ 500 ∧ len1 ≤ 500 ∧ 500 < len2) ∨ (len0 ≤ 500 ∧ len1 ≤ 500 ∧ len2 < 16)) :
    Calls Try.prog 9 #[.slice a0 len0 cap0, .slice a1 len1 cap1, .slice a2 len2 cap2] w fun e w' => e = .returned (.bool true) ∧ Below w.heap.size w w' := by
  rcases h with h | ⟨h, h'⟩ | ⟨h, h', h''⟩ | ⟨h, h', h''⟩
  · go_enter Try.func9, Try.ntmps9
    go_wp2_with fail
    refine (awake_any _).mono ?_
    rintro e w1 ⟨rfl, hk⟩
    go_wp2
    go_ret
    exact ⟨rfl, hk.below (fun _ _ h => h)⟩
  · go_enter Try.func9, Try.ntmps9
    go_wp2_with fail
    refine (awake_any _).mono ?_
    rintro e w1 ⟨rfl, hk⟩
    go_wp2
    go_ret
    exact ⟨rfl, hk.below (fun _ _ h => h)⟩
  · go_enter Try.func9, Try.ntmps9
    go_wp2_with fail
    refine (awake_any _).mono ?_
    rintro e w1 ⟨rfl, hk⟩
    go_wp2
    go_ret
    exact ⟨rfl, hk.below (fun _ _ h => h)⟩
  · have h3 : len2 ≤ 500 := by omega
    go_enter Try.func9, Try.ntmps9
    go_wp2_with fail
    refine (awake_any _).mono ?_
    rintro e w1 ⟨rfl, hk⟩
    go_wp2
    go_ret
    exact ⟨rfl, hk.below (fun _ _ h => h)⟩

theorem rollForgets_walk (a0 : Option Addr) (len0 cap0 : Nat) (z0 : List Int) (a1 : Option Addr) (len1 cap1 : Nat) (z1 : List Int) (a2 : Option Addr) (len2 cap2 : Nat) (z2 : List Int) (w : World)
    (w0 : IsRow .u8 w a0 len0 cap0 z0) (w1 : IsRow .u8 w a1 len1 cap1 z1) (w2 : IsRow .u8 w a2 len2 cap2 z2) :
    Calls Try.prog 9 #[.slice a0 len0 cap0, .slice a1 len1 cap1, .slice a2 len2 cap2] w fun e w' => e = .returned (.bool true) ∧ Below w.heap.size w w' := by
  have hle0 := w0.le
  have hle1 := w1.le
  have hle2 := w2.le
  have hcap2 : cap2 ≤ maxLen := by rcases w2 with ⟨rfl, rfl, rfl, rfl⟩ | ⟨y, rfl, h1, h2, h3, h4, h5⟩; simp; exact h2
  unfold maxLen at hle0 hle1 hle2 hcap2
  by_cases hg : 500 < len0 ∨ (len0 ≤ 500 ∧ 500 < len1) ∨ (len0 ≤ 500 ∧ len1 ≤ 500 ∧ 500 < len2) ∨ (len0 ≤ 500 ∧ len1 ≤ 500 ∧ len2 < 16)
  · exact rollForgets_early a0 len0 cap0 a1 len1 cap1 a2 len2 cap2 w (by omega) (by omega) (by omega) hg
  · have g0 : len0 ≤ 500 := by omega
    have g1 : len1 ≤ 500 := by omega
    have g2 : len2 ≤ 500 := by omega
    have g3 : 16 ≤ len2 := by omega
    clear hg
    obtain ⟨l, rfl, hl⟩ := w0.ex (by omega)
    obtain ⟨m, rfl, hm⟩ := w1.ex (by omega)
    obtain ⟨r, rfl, hr⟩ := w2.ex (by omega)
    clear w0 w1 w2
    obtain ⟨b, off, rfl, _⟩ := hr.cell 0 (by omega)
    go_enter Try.func9, Try.ntmps9
    go_wp2_with fail
    refine (awake_any _).mono ?_
    rintro e w1 ⟨rfl, hk1⟩
    go_wp2_with fail
    refine (new_roll _).mono ?_
    rintro e w2 ⟨rfl, hx, hk2⟩
    go_wp2_with fail
    refine (new_roll _).mono ?_
    rintro e w3 ⟨rfl, hy, hk3⟩
    have hz1 := hk1.size
    have hz2 := hx.lt
    have hx3 := hx.kp hk3 (fun h => h)
    have hk := (hk1.trans hk2).trans hk3
    have hne : w1.heap.size < w2.heap.size := hz2
    clear hk1 hk2 hk3 hx hz2
    generalize w1.heap.size = x at *
    generalize w2.heap.size = y at *
    go_wp2_with fail
    go_loopw [10] (fun i wr => ∃ k : Nat, k ≤ l.length ∧ i = .int .i64 k ∧ RollAt wr x (l.take k) ∧ RollAt wr y [] ∧ Kp (fun _ => False) w wr) (fun i _ => l.length - (intOf i).toNat)
    case atStart => exact ⟨0, by omega, rfl, by simpa using hx3, hy, hk⟩
    case round =>
      clear hx3 hy hk
      obtain ⟨k, hkl, rfl, hx, hy, hk⟩ := hrel
      by_cases hlt : k < l.length
      · obtain ⟨b', off', rfl, hc⟩ := (hl.kp hk (fun _ _ h => h)).cell k hlt
        have HT := Lib.hid (take_snoc l 0 k hlt)
        have hd := hl.bd.getD k
        generalize l.getD k 0 = c at *
        go_wp2_with fail
        refine (push_roll _ _ c _ hx hd).mono ?_
        rintro e w4 ⟨rfl, hx4, hk4⟩
        rw [← HT.out] at hx4
        have hy4 := hy.kp hk4 (by omega)
        have hk5 := hk.then hk4 (fun i hi e => by omega)
        clear hx hy hk hk4 hc
        go_wp2
        go_roundw
        case rel => exact ⟨k + 1, by omega, by go_num, hx4, hy4, hk5⟩
        case measure => simp [intOf]; omega
      · obtain rfl : k = l.length := by omega
        rw [List.take_length] at hx
        go_wp2_with fail
        go_loopw [11] (fun i wr => ∃ k : Nat, k ≤ m.length ∧ i = .int .i64 k ∧ RollAt wr x l ∧ RollAt wr y (m.take k) ∧ Kp (fun _ => False) w wr) (fun i _ => m.length - (intOf i).toNat)
        case atStart => exact ⟨0, by omega, rfl, hx, by simpa using hy, hk⟩
        case round =>
          clear hx hy hk
          obtain ⟨k, hkl, rfl, hx, hy, hk⟩ := hrel
          by_cases hlt : k < m.length
          · obtain ⟨b', off', rfl, hc⟩ := (hm.kp hk (fun _ _ h => h)).cell k hlt
            have HT := Lib.hid (take_snoc m 0 k hlt)
            have hd := hm.bd.getD k
            generalize m.getD k 0 = c at *
            go_wp2_with fail
            refine (push_roll _ _ c _ hy hd).mono ?_
            rintro e w4 ⟨rfl, hy4, hk4⟩
            rw [← HT.out] at hy4
            have hx4 := hx.kp hk4 (by omega)
            have hk5 := hk.then hk4 (fun i hi e => by omega)
            clear hx hy hk hk4 hc
            go_wp2
            go_roundw
            case rel => exact ⟨k + 1, by omega, by go_num, hx4, hy4, hk5⟩
            case measure => simp [intOf]; omega
          · obtain rfl : k = m.length := by omega
            rw [List.take_length] at hy
            go_wp2_with fail
            go_loopw [12] (fun i wr => ∃ k : Nat, k ≤ r.length ∧ i = .int .i64 k ∧ RollAt wr x (l ++ r.take k) ∧ RollAt wr y (m ++ r.take k) ∧ Kp (fun _ => False) w wr) (fun i _ => r.length - (intOf i).toNat)
            case atStart => exact ⟨0, by omega, rfl, by simpa using hx, by simpa using hy, hk⟩
            case round =>
              clear hx hy hk
              obtain ⟨k, hkl, rfl, hx, hy, hk⟩ := hrel
              by_cases hlt : k < r.length
              · obtain ⟨b', off', e, hc⟩ := (hr.kp hk (fun _ _ h => h)).cell k hlt
                cases e
                have hbw : b < w.heap.size := by obtain ⟨_, _, e, hc⟩ := hr.cell 0 (by omega); cases e; exact World.block_lt_of_cell? w _ hc
                have hbx : ¬ b = x := by omega
                have hby : ¬ b = y := by omega
                have hd := hr.bd.getD k
                have hi0 : (k : Int) < r.length := by omega
                have C1 : ∀ w', RollAt w' x (l ++ r.take k) → Calls Try.prog 24 #[.pointer (some ⟨x, 0, none⟩), .int .u8 (r.getD k 0)] w' (fun e w'' => e = .returned (.int .u32 (sm (last16 (l ++ r.take (k + 1))))) ∧ RollAt w'' x (l ++ r.take (k + 1)) ∧ Kp (· = x) w' w'') := fun w' h => by
                  rw [take_snoc r 0 k hlt, ← List.append_assoc]; exact push_roll x _ _ w' h hd
                have C2 : ∀ w', RollAt w' y (m ++ r.take k) → Calls Try.prog 24 #[.pointer (some ⟨y, 0, none⟩), .int .u8 (r.getD k 0)] w' (fun e w'' => e = .returned (.int .u32 (sm (last16 (m ++ r.take (k + 1))))) ∧ RollAt w'' y (m ++ r.take (k + 1)) ∧ Kp (· = y) w' w'') := fun w' h => by
                  rw [take_snoc r 0 k hlt, ← List.append_assoc]; exact push_roll y _ _ w' h hd
                have HS : 16 ≤ k + 1 → sm (last16 (m ++ r.take (k + 1))) = sm (last16 (l ++ r.take (k + 1))) := fun h => by
                  rw [last16_append _ _ (by simp; omega), last16_append _ _ (by simp; omega)]
                generalize r.getD k 0 = c at *
                generalize sm (last16 (l ++ r.take (k + 1))) = s1 at *
                generalize sm (last16 (m ++ r.take (k + 1))) = s2 at *
                have hxd := hx.drew
                have hyd := hy.drew
                have hcd : wr.drew.cell? ⟨b, off + k, none⟩ = some (.int .u8 c) := by simpa using hc
                have D1 := Lib.hid C1
                have D2 := Lib.hid C2
                have D3 := Lib.hid HS
                clear C1 C2 HS
                go_wp2_with fail
                go_region_held3 (fun w' => w'.cell? ⟨b, off + k, none⟩ = some (.int .u8 c)) (first | assumption | exact Kp.cell hk4 ‹_› hbx | exact Kp.cell hk6 ‹_› hby) (first | (go_at_call 24; with_reducible refine (D1.out _ ?_).mono ?_; exact hxd; rintro e w4 ⟨rfl, hx4, hk4⟩) | (go_at_call 24; with_reducible refine (D2.out _ ?_).mono ?_; exact RollAt.kp hyd hk4 (by omega); rintro e w6 ⟨rfl, hy6, hk6⟩))
                have hx6 := hx4.kp hk6 (by omega)
                have hk7 := (hk.drew.then hk4 (fun i hi e => by omega)).then hk6 (fun i hi e => by omega)
                clear hx hy hk hxd hyd hx4 hk4 hk6 hc hcd D1 D2
                by_cases h15 : 16 ≤ k + 1
                · obtain rfl := D3.out h15
                  clear D3
                  go_wp2
                  go_roundw
                  case rel => exact ⟨k + 1, by omega, by go_num, hx6, hy6, hk7⟩
                  case measure => simp [intOf]; omega
                · have h15' : decide ((16 : Int) ≤ (k : Int) + 1) = false := by simp; omega
                  have h15'' : decide ((15 : Int) ≤ (k : Int)) = false := by simp; omega
                  clear D3 h15
                  go_wp2
                  go_roundw
                  case rel => exact ⟨k + 1, by omega, by go_num, hx6, hy6, hk7⟩
                  case measure => simp [intOf]; omega
              · obtain rfl : k = r.length := by omega
                rw [List.take_length] at hx hy
                have hr1 := (hr.kp hk (fun _ _ h => h)).slice (r.length - 16) 16
                have e0 : (r.drop (r.length - 16)).take 16 = last16 r := by rw [List.take_of_length_le (by simp; omega)]; rfl
                rw [e0] at hr1
                have hl16 := last16_len r g3
                have F1 : decide (16 ≤ (l ++ r).length) = true := by simp; omega
                have F2 : decide (16 ≤ (m ++ r).length) = true := by simp; omega
                have F3 : last16 (l ++ r) = last16 r := last16_append _ _ g3
                have C1 := fun n => Calls.quiet_of_same (n := n) (Calls.turn (full_roll x _ (wr.drewN n) (hx.drewN n)))
                have C2 := fun n => Calls.quiet_of_same (n := n) (Calls.turn (full_roll y _ (wr.drewN n) (hy.drewN n)))
                have C3 := fun n => Calls.quiet_of_same (n := n) (Calls.turn (sum_roll x _ (wr.drewN n) (hx.drewN n)))
                have C4 := fun n => Calls.quiet_of_same (n := n) (Calls.turn (sum_n (some ⟨b, off + (r.length - 16), none⟩) (r.length - (r.length - 16)) (cap2 - (r.length - 16)) (last16 r) (wr.drewN n) (hr1.drewN n) (by omega)))
                rw [F1] at C1
                rw [F2] at C2
                rw [F3] at C3
                have hfin := fun n => (hk.drewN n).below (fun _ _ h => h)
                have HF := Lib.hid hfin
                clear F1 F2 F3 hx hy hk hr1 e0 hl16 hfin
                have e2 : 16 ≤ (r.length : Int) := by omega
                have e3 : ((r.length : Int) - 16).toNat = r.length - 16 := by omega
                have e4 : (r.length : Int) - 16 ≤ r.length := by omega
                have e1 : IntKind.i64.wrap ((r.length : Int) - 16) = (r.length : Int) - 16 := IntWalk.i64_in _ (by omega)
                go_wp2_with fail
                go_quiet ((first | (go_at_call 26; first | (with_reducible exact C1 _) | (with_reducible exact C2 _)) | (go_at_call 25; exact C3 _) | (go_at_call 14; exact C4 _)))
                go_wp2
                go_ret
                exact ⟨rfl, HF.out _⟩
end Go.Proofs.Ytpliilaoahepbaa
