/- The contract of a roller's Push. No condition but that the byte is a byte and the roller's block is a roller's. -/
import Derived.Test.YtpliilaoahepbaaRoll
namespace Go.Proofs.Ytpliilaoahepbaa
open Go.RowKit
set_option linter.unusedVariables false

theorem push_end {w w2 : World} {b : Nat} {ring : List Int} {n : Nat} {s c : Int} (h : At w2 b (rollC ring n s)) (k : Kp (· = b) w w2) (hr : ring.length = 16) (hn : n < 32) (m : Int) (hm : m = (n : Int) + 1 ∧ n + 1 ≠ 32) :
    At ((w2.setCell ⟨b, n % 16, none⟩ (.int .u8 c)).setCell ⟨b, 16, none⟩ (.int .i64 m)).drew b (rollC (ring.set (n % 16) c) (nx n) s) ∧
    Kp (· = b) w ((w2.setCell ⟨b, n % 16, none⟩ (.int .u8 c)).setCell ⟨b, 16, none⟩ (.int .i64 m)).drew := by
  obtain ⟨rfl, hm⟩ := hm
  refine ⟨?_, ((k.setCell (p := ⟨b, n % 16, none⟩) (fun _ => rfl) _).setCell (p := ⟨b, 16, none⟩) (fun _ => rfl) _).drew⟩
  have := ((h.set (n % 16) (.int .u8 c)).set 16 (.int .i64 ((n + 1 : Nat) : Int))).drew
  rw [rollC_set _ _ _ hr _ (by omega), rollC_set16 _ _ _ _ (by simpa using hr)] at this
  rw [nx, if_neg hm]
  exact this
theorem push_end' {w w2 : World} {b : Nat} {ring : List Int} {n : Nat} {s c : Int} (h : At w2 b (rollC ring n s)) (k : Kp (· = b) w w2) (hr : ring.length = 16) (m : Int) (hm : n + 1 = 32) :
    At (((w2.setCell ⟨b, n % 16, none⟩ (.int .u8 c)).setCell ⟨b, 16, none⟩ (.int .i64 m)).setCell ⟨b, 16, none⟩ (.int .i64 16)).drew b (rollC (ring.set (n % 16) c) (nx n) s) ∧
    Kp (· = b) w (((w2.setCell ⟨b, n % 16, none⟩ (.int .u8 c)).setCell ⟨b, 16, none⟩ (.int .i64 m)).setCell ⟨b, 16, none⟩ (.int .i64 16)).drew := by
  refine ⟨?_, (((k.setCell (p := ⟨b, n % 16, none⟩) (fun _ => rfl) _).setCell (p := ⟨b, 16, none⟩) (fun _ => rfl) _).setCell (p := ⟨b, 16, none⟩) (fun _ => rfl) _).drew⟩
  have := (((h.set (n % 16) (.int .u8 c)).set 16 (.int .i64 m)).set 16 (.int .i64 ((16 : Nat) : Int))).drew
  rw [List.set_set, rollC_set _ _ _ hr _ (by omega), rollC_set16 _ _ _ _ (by simpa using hr)] at this
  rw [nx, if_pos hm]
  exact this

theorem push_lo (b : Nat) (ring : List Int) (n : Nat) (s c : Int) (w : World) (h : At w b (rollC ring n s)) (hr : ring.length = 16) (hn : n < 16)
    (hs0 : 0 ≤ s) (hs1 : s < 4294967296) (hc0 : 0 ≤ c) (hc1 : c ≤ 255) :
    Calls Try.prog 24 #[.pointer (some ⟨b, 0, none⟩), .int .u8 c] w fun e w' =>
      e = .returned (.int .u32 (ps ring n s c)) ∧ At w' b (rollC (ring.set (n % 16) c) (nx n) (ps ring n s c)) ∧ Kp (· = b) w w' := by
  have hw := wt_bd c
  have h16 := rollC_16 h hr
  have h17 := rollC_17 h hr
  have h18 := rollC_18 h hr
  have hf := fun i => h.frozen i
  have he : ((n : Int) + 1 == 32) = false := by simp; omega
  go_enter Try.func24, Try.ntmps24
  go_wp2_with (go_at_call 28; refine (none_at _ true _ h18).mono ?_; rintro e w' ⟨rfl, rfl⟩)
  go_still_tail 11, (by kernel_rfl)
  refine wpStill_step (fun K hK => ?_)
  go_simp
  refine ⟨_, (weight_any _ _ hc0 hc1).mono (fun e w' ⟨h1, h2⟩ => ⟨h1, h2.symm⟩), hK _ ?_⟩
  clear hK K
  repeat still_step
  refine wpStill_nil ?_
  change wpList _ _ _ _ _ w.drew
  go_wp2_with fail
  have e : (s * 3 % 4294967296 + wt c) % 4294967296 = ps ring n s c := by unfold ps; rw [if_pos hn]; omega
  refine wp_world (fun w' => At w' b (rollC ring n (ps ring n s c)) ∧ Kp (· = b) w w') ⟨?_, ?_⟩ ?_
  · have := (h.set 17 (.int .u32 (ps ring n s c))).drew
    rw [rollC_set17 _ _ _ _ hr] at this
    rw [e]; exact this
  · exact ((Kp.refl (· = b) w).setCell (p := ⟨b, 17, none⟩) (fun _ => rfl) _).drew
  clear h h16 h17 h18 hf hw e
  rintro w2 ⟨h, k2⟩
  have h16 := rollC_16 h hr
  have h17 := rollC_17 h hr
  have hring := rollC_ring h hr (n % 16) (by omega)
  have hf := fun i => h.frozen i
  go_still_tail 9, (by kernel_rfl)
  change wpList _ _ _ _ _ w2.drew
  go_wp2
  go_ret
  exact ⟨rfl, push_end h k2 hr (by omega) _ ⟨rfl, by omega⟩⟩

theorem push_hi (b : Nat) (ring : List Int) (n : Nat) (s c : Int) (w : World) (h : At w b (rollC ring n s)) (hr : ring.length = 16) (hn0 : 16 ≤ n) (hn : n < 32)
    (hs0 : 0 ≤ s) (hs1 : s < 4294967296) (hc0 : 0 ≤ c) (hc1 : c ≤ 255) (hb : Byt ring) :
    Calls Try.prog 24 #[.pointer (some ⟨b, 0, none⟩), .int .u8 c] w fun e w' =>
      e = .returned (.int .u32 (ps ring n s c)) ∧ At w' b (rollC (ring.set (n % 16) c) (nx n) (ps ring n s c)) ∧ Kp (· = b) w w' := by
  have h16 := rollC_16 h hr
  have h17 := rollC_17 h hr
  have h18 := rollC_18 h hr
  have hf := fun i => h.frozen i
  have hring := rollC_ring h hr (n % 16) (by omega)
  have hd := hb.getD (n % 16)
  have hp0 : 0 ≤ (n : Int) % 16 := by omega
  have hp1 : (n : Int) % 16 < 16 := by omega
  have hp2 : (n : Int).tmod 16 = (n : Int) % 16 := Int.tmod_eq_emod_of_nonneg (by omega)
  have hp3 : ((n : Int) % 16).toNat = n % 16 := by omega
  have H : Hid (ps ring n s c = rl s (ring.getD (n % 16) 0) c) := by show ps _ _ _ _ = _; unfold ps; rw [if_neg (by omega)]
  generalize ring.getD (n % 16) 0 = d at *
  go_enter Try.func24, Try.ntmps24
  go_wp2_with (go_at_call 28; refine (none_at _ true _ h18).mono ?_; rintro e w' ⟨rfl, rfl⟩)
  go_still_tail 18, (by kernel_rfl)
  refine wpStill_step (fun K hK => ?_)
  go_simp
  refine ⟨_, (roll_any _ _ _ _ hc0 hc1 hd.1 hd.2 hs0 hs1).mono (fun e w' ⟨h1, h2⟩ => ⟨h1, h2.symm⟩), hK _ ?_⟩
  clear hK K
  repeat still_step
  refine wpStill_nil ?_
  change wpList _ _ _ _ _ w.drew
  go_wp2_with fail
  refine wp_world (fun w' => At w' b (rollC ring n (ps ring n s c)) ∧ Kp (· = b) w w') ⟨?_, ?_⟩ ?_
  · have := (h.set 17 (.int .u32 (ps ring n s c))).drew
    rw [rollC_set17 _ _ _ _ hr, H.out] at this
    rw [H.out]; exact this
  · exact ((Kp.refl (· = b) w).setCell (p := ⟨b, 17, none⟩) (fun _ => rfl) _).drew
  clear h h16 h17 h18 hf hring
  rintro w2 ⟨h, k2⟩
  have h16 := rollC_16 h hr
  have h17 := rollC_17 h hr
  have hring := rollC_ring h hr (n % 16) (by omega)
  have hf := fun i => h.frozen i
  by_cases he : n + 1 = 32
  · have he' : ((n : Int) + 1 == 32) = true := by simp; omega
    have HE := Lib.hid he
    clear he
    go_still_tail 9, (by kernel_rfl)
    change wpList _ _ _ _ _ w2.drew
    go_wp2
    go_ret
    exact ⟨rfl, push_end' h k2 hr _ HE.out⟩
  · have he' : ((n : Int) + 1 == 32) = false := by simp; omega
    go_still_tail 9, (by kernel_rfl)
    change wpList _ _ _ _ _ w2.drew
    go_wp2
    go_ret
    exact ⟨rfl, push_end h k2 hr (by omega) _ ⟨rfl, he⟩⟩

theorem push_at (b : Nat) (ring : List Int) (n : Nat) (s c : Int) (w : World) (h : At w b (rollC ring n s)) (hr : ring.length = 16) (hn : n < 32)
    (hs0 : 0 ≤ s) (hs1 : s < 4294967296) (hc0 : 0 ≤ c) (hc1 : c ≤ 255) (hb : Byt ring) :
    Calls Try.prog 24 #[.pointer (some ⟨b, 0, none⟩), .int .u8 c] w fun e w' =>
      e = .returned (.int .u32 (ps ring n s c)) ∧ At w' b (rollC (ring.set (n % 16) c) (nx n) (ps ring n s c)) ∧ Kp (· = b) w w' := by
  by_cases h16 : n < 16
  · exact push_lo b ring n s c w h hr h16 hs0 hs1 hc0 hc1
  · exact push_hi b ring n s c w h hr (by omega) hn hs0 hs1 hc0 hc1 hb
end Go.Proofs.Ytpliilaoahepbaa
