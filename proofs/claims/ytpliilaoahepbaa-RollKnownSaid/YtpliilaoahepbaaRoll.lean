/- The contracts of package roll, and of the reference's Weight, Sum, Roll. No condition but that bytes are bytes. -/
import Derived.Test.YtpliilaoahepbaaRollM
namespace Go.Proofs.Ytpliilaoahepbaa
open Go.RowKit
set_option linter.unusedVariables false

theorem weight_any (c : Int) (w : World) (h0 : 0 ≤ c) (h1 : c ≤ 255) :
    Calls Try.prog 12 #[.int .u8 c] w fun e w' => e = .returned (.int .u32 (wt c)) ∧ w = w' := by
  go_enter Try.func12, Try.ntmps12
  go_wp2
  go_ret
  exact ⟨by simp [wt, bits_or_one c h0 h1], rfl⟩

theorem rweight_any (c : Int) (w : World) (h0 : 0 ≤ c) (h1 : c ≤ 255) :
    Calls Try.prog 13 #[.int .u8 c] w fun e w' => e = .returned (.int .u32 (wt c)) ∧ w = w' := by
  go_enter Try.func13, Try.ntmps13
  go_wp2
  go_ret
  exact ⟨rfl, rfl⟩

theorem sum_any (a : Option Addr) (cap : Nat) (l : List Int) (w : World) (h : RdB w a l) :
    Calls Try.prog 14 #[.slice a l.length cap] w fun e w' => e = .returned (.int .u32 (sm l)) ∧ w = w' := by
  have hlen := h.len
  go_enter Try.func14, Try.ntmps14
  go_wp2
  go_loop [3, 8] (fun n i => ∃ k : Nat, k ≤ l.length ∧ i = .int .i64 k ∧ n = .int .u32 (sm (l.take k))) (fun _ i => l.length - (intOf i).toNat)
  case atStart => exact ⟨0, Nat.zero_le _, rfl, rfl⟩
  case round =>
    obtain ⟨k, hk, rfl, rfl⟩ := hrel
    by_cases hlt : k < l.length
    · obtain ⟨b, off, rfl, hc⟩ := h.cell k hlt
      have hb := h.bd.getD k
      have hs := sm_bd (l.take k)
      have hw := wt_bd (l.getD k 0)
      have HS := Lib.hid ((congrArg sm (take_snoc l 0 k hlt)).trans (sm_snoc (l.take k) (l.getD k 0)))
      generalize l.getD k 0 = c at *
      go_wp2_with (go_at_call 12; refine (weight_any _ _ (by omega) (by omega)).mono ?_; rintro e w' ⟨rfl, rfl⟩)
      go_round
      case rel => exact ⟨k + 1, by omega, by go_num, by rw [HS.out]; go_num⟩
      case measure => simp [intOf]; omega
    · obtain rfl : k = l.length := by omega
      go_wp2
      go_ret
      exact ⟨by simp, rfl⟩

theorem rsum_any (a : Option Addr) (cap : Nat) (l : List Int) (w : World) (h : RdB w a l) :
    Calls Try.prog 15 #[.slice a l.length cap] w fun e w' => e = .returned (.int .u32 (sm l)) ∧ w = w' := by
  have hlen := h.len
  go_enter Try.func15, Try.ntmps15
  go_wp2
  go_loop [3, 4] (fun n i => ∃ k : Nat, k ≤ l.length ∧ i = .int .i64 k ∧ n = .int .u32 (sm (l.take k))) (fun _ i => l.length - (intOf i).toNat)
  case atStart => exact ⟨0, Nat.zero_le _, rfl, rfl⟩
  case round =>
    obtain ⟨k, hk, rfl, rfl⟩ := hrel
    by_cases hlt : k < l.length
    · obtain ⟨b, off, rfl, hc⟩ := h.cell k hlt
      have hb := h.bd.getD k
      have hs := sm_bd (l.take k)
      have hw := wt_bd (l.getD k 0)
      have HS := Lib.hid ((congrArg sm (take_snoc l 0 k hlt)).trans (sm_snoc (l.take k) (l.getD k 0)))
      generalize l.getD k 0 = c at *
      go_wp2_with (go_at_call 13; refine (rweight_any _ _ (by omega) (by omega)).mono ?_; rintro e w' ⟨rfl, rfl⟩)
      go_round
      case rel => exact ⟨k + 1, by omega, by go_num, by rw [HS.out]; go_num⟩
      case measure => simp [intOf]; omega
    · obtain rfl : k = l.length := by omega
      go_wp2
      go_ret
      exact ⟨by simp, rfl⟩

theorem sum_n (a : Option Addr) (n cap : Nat) (l : List Int) (w : World) (h : RdB w a l) (hn : l.length = n) :
    Calls Try.prog 14 #[.slice a n cap] w fun e w' => e = .returned (.int .u32 (sm l)) ∧ w = w' := by
  subst hn; exact sum_any a cap l w h
theorem rsum_n (a : Option Addr) (n cap : Nat) (l : List Int) (w : World) (h : RdB w a l) (hn : l.length = n) :
    Calls Try.prog 15 #[.slice a n cap] w fun e w' => e = .returned (.int .u32 (sm l)) ∧ w = w' := by
  subst hn; exact rsum_any a cap l w h

theorem roll_any (s o c : Int) (w : World) (h0 : 0 ≤ c) (h1 : c ≤ 255) (h2 : 0 ≤ o) (h3 : o ≤ 255) (h4 : 0 ≤ s) (h5 : s < 4294967296) :
    Calls Try.prog 16 #[.int .u32 s, .int .u8 o, .int .u8 c] w fun e w' => e = .returned (.int .u32 (rl s o c)) ∧ w = w' := by
  have hw := wt_bd o
  have hv := wt_bd c
  go_enter Try.func16, Try.ntmps16
  go_wp2_with (go_at_call 12; refine (weight_any _ _ (by omega) (by omega)).mono ?_; rintro e w' ⟨rfl, rfl⟩)
  go_ret
  exact ⟨ret_int (rl_eq s o c), rfl⟩

theorem rroll_any (s o c : Int) (w : World) (h0 : 0 ≤ c) (h1 : c ≤ 255) (h2 : 0 ≤ o) (h3 : o ≤ 255) (h4 : 0 ≤ s) (h5 : s < 4294967296) :
    Calls Try.prog 17 #[.int .u32 s, .int .u8 o, .int .u8 c] w fun e w' => e = .returned (.int .u32 (rl s o c)) ∧ w = w' := by
  have hw := wt_bd o
  have hv := wt_bd c
  go_enter Try.func17, Try.ntmps17
  go_wp2_with (go_at_call 13; refine (rweight_any _ _ (by omega) (by omega)).mono ?_; rintro e w' ⟨rfl, rfl⟩)
  go_ret
  exact ⟨ret_int (by unfold rl; omega), rfl⟩

theorem new_any (w : World) : Calls Try.prog 22 #[] w fun e w' => e = .returned (.pointer (some ⟨w.heap.size, 0, none⟩)) ∧ At w' w.heap.size (rollC (List.replicate 16 0) 0 0) ∧ Kp (fun _ => False) w w' := by
  go_enter Try.func22, Try.ntmps22
  go_wp2
  go_ret
  exact ⟨rfl, ⟨_, heap_alloc_new w _⟩, (Kp.refl _ _).alloc _⟩

theorem none_nil (w : World) : Calls Try.prog 28 #[.pointer none] w fun e w' => e = .returned (.bool true) ∧ w = w' := by
  go_enter Try.func28, Try.ntmps28
  go_wp2
  go_ret
  exact ⟨rfl, rfl⟩

theorem none_at (b : Nat) (t : Bool) (w : World) (h : w.cell? ⟨b, 18, none⟩ = some (.bool t)) :
    Calls Try.prog 28 #[.pointer (some ⟨b, 0, none⟩)] w fun e w' => e = .returned (.bool (!t)) ∧ w = w' := by
  go_enter Try.func28, Try.ntmps28
  go_wp2
  go_ret
  exact ⟨rfl, rfl⟩

theorem full_nil (w : World) : Calls Try.prog 26 #[.pointer none] w fun e w' => e = .returned (.bool false) ∧ w = w' := by
  go_enter Try.func26, Try.ntmps26
  go_wp2_with (go_at_call 28; refine (none_nil _).mono ?_; rintro e w' ⟨rfl, rfl⟩)
  go_ret
  exact ⟨rfl, rfl⟩
theorem rsumm_nil (w : World) : Calls Try.prog 25 #[.pointer none] w fun e w' => e = .returned (.int .u32 0) ∧ w = w' := by
  go_enter Try.func25, Try.ntmps25
  go_wp2_with (go_at_call 28; refine (none_nil _).mono ?_; rintro e w' ⟨rfl, rfl⟩)
  go_ret
  exact ⟨rfl, rfl⟩
theorem push_nil (c : Int) (w : World) : Calls Try.prog 24 #[.pointer none, .int .u8 c] w fun e w' => e = .returned (.int .u32 0) ∧ w = w' := by
  go_enter Try.func24, Try.ntmps24
  go_wp2_with (go_at_call 28; refine (none_nil _).mono ?_; rintro e w' ⟨rfl, rfl⟩)
  go_ret
  exact ⟨rfl, rfl⟩
section
variable (b : Nat) (w : World) (h : w.cell? ⟨b, 18, none⟩ = some (.bool false))
include h
theorem full_un : Calls Try.prog 26 #[.pointer (some ⟨b, 0, none⟩)] w fun e w' => e = .returned (.bool false) ∧ w = w' := by
  go_enter Try.func26, Try.ntmps26
  go_wp2_with (go_at_call 28; refine (none_at _ false _ h).mono ?_; rintro e w' ⟨rfl, rfl⟩)
  go_ret
  exact ⟨rfl, rfl⟩
theorem rsumm_un : Calls Try.prog 25 #[.pointer (some ⟨b, 0, none⟩)] w fun e w' => e = .returned (.int .u32 0) ∧ w = w' := by
  go_enter Try.func25, Try.ntmps25
  go_wp2_with (go_at_call 28; refine (none_at _ false _ h).mono ?_; rintro e w' ⟨rfl, rfl⟩)
  go_ret
  exact ⟨rfl, rfl⟩
theorem push_un (c : Int) : Calls Try.prog 24 #[.pointer (some ⟨b, 0, none⟩), .int .u8 c] w fun e w' => e = .returned (.int .u32 0) ∧ w = w' := by
  go_enter Try.func24, Try.ntmps24
  go_wp2_with (go_at_call 28; refine (none_at _ false _ h).mono ?_; rintro e w' ⟨rfl, rfl⟩)
  go_ret
  exact ⟨rfl, rfl⟩
end
section
variable (b : Nat) (ring : List Int) (n : Nat) (s : Int) (w : World) (h : At w b (rollC ring n s)) (hr : ring.length = 16)
include h hr
theorem full_at : Calls Try.prog 26 #[.pointer (some ⟨b, 0, none⟩)] w fun e w' => e = .returned (.bool (decide (16 ≤ n))) ∧ w = w' := by
  have h16 := rollC_16 h hr
  go_enter Try.func26, Try.ntmps26
  go_wp2_with (go_at_call 28; refine (none_at _ true _ (rollC_18 h hr)).mono ?_; rintro e w' ⟨rfl, rfl⟩)
  go_ret
  exact ⟨ret_bool (by simp; omega), rfl⟩
theorem rsumm_at : Calls Try.prog 25 #[.pointer (some ⟨b, 0, none⟩)] w fun e w' => e = .returned (.int .u32 s) ∧ w = w' := by
  have h17 := rollC_17 h hr
  go_enter Try.func25, Try.ntmps25
  go_wp2_with (go_at_call 28; refine (none_at _ true _ (rollC_18 h hr)).mono ?_; rintro e w' ⟨rfl, rfl⟩)
  go_ret
  exact ⟨rfl, rfl⟩
end
end Go.Proofs.Ytpliilaoahepbaa
