/- The contracts of package roll as chapter 06 reaches them: a roller that lies at the front of a greater block. (Written by wip/chkrgen.py out of chapter 05's.) -/
import Derived.Test.YtlabkldpcbmjbaaChkI
namespace Go.Proofs.Ytlabkldpcbmjbaa
open Go.RowKit
set_option linter.unusedVariables false

theorem weight_any (c : Int) (w : World) (h0 : 0 ≤ c) (h1 : c ≤ 255) :
    Calls Try.prog 37 #[.int .u8 c] w fun e w' => e = .returned (.int .u32 (wt c)) ∧ w = w' := by
  go_enter Try.func37, Try.ntmps37
  go_wp2
  go_ret
  exact ⟨by simp [wt, bits_or_one c h0 h1], rfl⟩

theorem rweight_any (c : Int) (w : World) (h0 : 0 ≤ c) (h1 : c ≤ 255) :
    Calls Try.prog 46 #[.int .u8 c] w fun e w' => e = .returned (.int .u32 (wt c)) ∧ w = w' := by
  go_enter Try.func46, Try.ntmps46
  go_wp2
  go_ret
  exact ⟨rfl, rfl⟩

theorem sum_any (a : Option Addr) (cap : Nat) (l : List Int) (w : World) (h : RdB w a l) :
    Calls Try.prog 32 #[.slice a l.length cap] w fun e w' => e = .returned (.int .u32 (sm l)) ∧ w = w' := by
  have hlen := h.len
  go_enter Try.func32, Try.ntmps32
  go_wp2
  go_loop [3, 8] (fun n i => ∃ k : Nat, k ≤ l.length ∧ i = .int .i64 k ∧ n = .int .u32 (sm (l.take k))) (fun _ i => l.length - (intOf i).toNat)
  case atStart => exact ⟨0, Nat.zero_le _, rfl, rfl⟩
  case round =>
    obtain ⟨k, hk, rfl, rfl⟩ := hrel
    by_cases hlt : k < l.length
    · obtain ⟨b, off, rfl, hc⟩ := h.cell k hlt
      have hb := h.bd.getD k
      have hs := sm_bd (l.take k)
      have hw := wt_bd (l.getD k 0)
      have HS := Lib.hid ((congrArg sm (take_snoc l 0 k hlt)).trans (sm_snoc (l.take k) (l.getD k 0)))
      generalize l.getD k 0 = c at *
      go_wp2_with (go_at_call 37; refine (weight_any _ _ (by omega) (by omega)).mono ?_; rintro e w' ⟨rfl, rfl⟩)
      go_round
      case rel => exact ⟨k + 1, by omega, by go_num, by rw [HS.out]; go_num⟩
      case measure => simp [intOf]; omega
    · obtain rfl : k = l.length := by omega
      go_wp2
      go_ret
      exact ⟨by simp, rfl⟩

theorem rsum_any (a : Option Addr) (cap : Nat) (l : List Int) (w : World) (h : RdB w a l) :
    Calls Try.prog 43 #[.slice a l.length cap] w fun e w' => e = .returned (.int .u32 (sm l)) ∧ w = w' := by
  have hlen := h.len
  go_enter Try.func43, Try.ntmps43
  go_wp2
  go_loop [3, 4] (fun n i => ∃ k : Nat, k ≤ l.length ∧ i = .int .i64 k ∧ n = .int .u32 (sm (l.take k))) (fun _ i => l.length - (intOf i).toNat)
  case atStart => exact ⟨0, Nat.zero_le _, rfl, rfl⟩
  case round =>
    obtain ⟨k, hk, rfl, rfl⟩ := hrel
    by_cases hlt : k < l.length
    · obtain ⟨b, off, rfl, hc⟩ := h.cell k hlt
      have hb := h.bd.getD k
      have hs := sm_bd (l.take k)
      have hw := wt_bd (l.getD k 0)
      have HS := Lib.hid ((congrArg sm (take_snoc l 0 k hlt)).trans (sm_snoc (l.take k) (l.getD k 0)))
      generalize l.getD k 0 = c at *
      go_wp2_with (go_at_call 46; refine (rweight_any _ _ (by omega) (by omega)).mono ?_; rintro e w' ⟨rfl, rfl⟩)
      go_round
      case rel => exact ⟨k + 1, by omega, by go_num, by rw [HS.out]; go_num⟩
      case measure => simp [intOf]; omega
    · obtain rfl : k = l.length := by omega
      go_wp2
      go_ret
      exact ⟨by simp, rfl⟩

theorem sum_n (a : Option Addr) (n cap : Nat) (l : List Int) (w : World) (h : RdB w a l) (hn : l.length = n) :
    Calls Try.prog 32 #[.slice a n cap] w fun e w' => e = .returned (.int .u32 (sm l)) ∧ w = w' := by
  subst hn; exact sum_any a cap l w h

theorem rsum_n (a : Option Addr) (n cap : Nat) (l : List Int) (w : World) (h : RdB w a l) (hn : l.length = n) :
    Calls Try.prog 43 #[.slice a n cap] w fun e w' => e = .returned (.int .u32 (sm l)) ∧ w = w' := by
  subst hn; exact rsum_any a cap l w h

theorem roll_any (s o c : Int) (w : World) (h0 : 0 ≤ c) (h1 : c ≤ 255) (h2 : 0 ≤ o) (h3 : o ≤ 255) (h4 : 0 ≤ s) (h5 : s < 4294967296) :
    Calls Try.prog 45 #[.int .u32 s, .int .u8 o, .int .u8 c] w fun e w' => e = .returned (.int .u32 (rl s o c)) ∧ w = w' := by
  have hw := wt_bd o
  have hv := wt_bd c
  go_enter Try.func45, Try.ntmps45
  go_wp2_with (go_at_call 37; refine (weight_any _ _ (by omega) (by omega)).mono ?_; rintro e w' ⟨rfl, rfl⟩)
  go_ret
  exact ⟨ret_int (rl_eq s o c), rfl⟩

theorem new_any (w : World) : Calls Try.prog 38 #[] w fun e w' => e = .returned (.pointer (some ⟨w.heap.size, 0, none⟩)) ∧ At w' w.heap.size (rollC (List.replicate 16 0) 0 0) ∧ Kp (fun _ => False) w w' := by
  go_enter Try.func38, Try.ntmps38
  go_wp2
  go_ret
  exact ⟨rfl, ⟨_, heap_alloc_new w _⟩, (Kp.refl _ _).alloc _⟩

theorem none_at (b : Nat) (t : Bool) (w : World) (h : w.cell? ⟨b, 18, none⟩ = some (.bool t)) :
    Calls Try.prog 44 #[.pointer (some ⟨b, 0, none⟩)] w fun e w' => e = .returned (.bool (!t)) ∧ w = w' := by
  go_enter Try.func44, Try.ntmps44
  go_wp2
  go_ret
  exact ⟨rfl, rfl⟩

section
variable {w : World} {b : Nat} {ring : List Int} {n : Nat} {s : Int} {T : List Value} (h : At w b (rollC ring n s ++ T)) (hr : ring.length = 16)
include hr
theorem rollT_len : (rollC ring n s).length = 19 := by simp [rollC, hr]
theorem rollT_set (i : Nat) (hi : i < 19) (v : Value) : (rollC ring n s ++ T).set i v = (rollC ring n s).set i v ++ T := List.set_append_left _ _ (by rw [rollT_len hr]; exact hi)
include h
theorem rollT_cell (i : Nat) (hi : i < 19) : w.cell? ⟨b, i, none⟩ = (rollC ring n s)[i]? := by rw [h.cell, List.getElem?_append_left (by rw [rollT_len hr]; exact hi)]
theorem rollT_16 : w.cell? ⟨b, 16, none⟩ = some (.int .i64 n) := by rw [rollT_cell h hr 16 (by omega), rollC, List.getElem?_append_right (by simp [hr])]; simp [hr]
theorem rollT_17 : w.cell? ⟨b, 17, none⟩ = some (.int .u32 s) := by rw [rollT_cell h hr 17 (by omega), rollC, List.getElem?_append_right (by simp [hr])]; simp [hr]
theorem rollT_18 : w.cell? ⟨b, 18, none⟩ = some (.bool true) := by rw [rollT_cell h hr 18 (by omega), rollC, List.getElem?_append_right (by simp [hr])]; simp [hr]
theorem rollT_ring (i : Nat) (hi : i < 16) : w.cell? ⟨b, i, none⟩ = some (.int .u8 (ring.getD i 0)) := by
  rw [rollT_cell h hr i (by omega), rollC, List.getElem?_append_left (by simp [hr, hi])]
  simp [List.getD_eq_getElem?_getD, List.getElem?_eq_getElem (show i < ring.length by omega)]
end
theorem push_end {w w2 : World} {b : Nat} {T : List Value} {ring : List Int} {n : Nat} {s c : Int} (h : At w2 b (rollC ring n s ++ T)) (k : Kp (· = b) w w2) (hr : ring.length = 16) (hn : n < 32) (m : Int) (hm : m = (n : Int) + 1 ∧ n + 1 ≠ 32) :
    At ((w2.setCell ⟨b, n % 16, none⟩ (.int .u8 c)).setCell ⟨b, 16, none⟩ (.int .i64 m)).drew b (rollC (ring.set (n % 16) c) (nx n) s ++ T) ∧
    Kp (· = b) w ((w2.setCell ⟨b, n % 16, none⟩ (.int .u8 c)).setCell ⟨b, 16, none⟩ (.int .i64 m)).drew := by
  obtain ⟨rfl, hm⟩ := hm
  refine ⟨?_, ((k.setCell (p := ⟨b, n % 16, none⟩) (fun _ => rfl) _).setCell (p := ⟨b, 16, none⟩) (fun _ => rfl) _).drew⟩
  have := ((h.set (n % 16) (.int .u8 c)).set 16 (.int .i64 ((n + 1 : Nat) : Int))).drew
  rw [rollT_set hr _ (by omega), rollC_set _ _ _ hr _ (by omega), rollT_set (by simpa using hr) _ (by omega), rollC_set16 _ _ _ _ (by simpa using hr)] at this
  rw [nx, if_neg hm]
  exact this
theorem push_end' {w w2 : World} {b : Nat} {T : List Value} {ring : List Int} {n : Nat} {s c : Int} (h : At w2 b (rollC ring n s ++ T)) (k : Kp (· = b) w w2) (hr : ring.length = 16) (m : Int) (hm : n + 1 = 32) :
    At (((w2.setCell ⟨b, n % 16, none⟩ (.int .u8 c)).setCell ⟨b, 16, none⟩ (.int .i64 m)).setCell ⟨b, 16, none⟩ (.int .i64 16)).drew b (rollC (ring.set (n % 16) c) (nx n) s ++ T) ∧
    Kp (· = b) w (((w2.setCell ⟨b, n % 16, none⟩ (.int .u8 c)).setCell ⟨b, 16, none⟩ (.int .i64 m)).setCell ⟨b, 16, none⟩ (.int .i64 16)).drew := by
  refine ⟨?_, (((k.setCell (p := ⟨b, n % 16, none⟩) (fun _ => rfl) _).setCell (p := ⟨b, 16, none⟩) (fun _ => rfl) _).setCell (p := ⟨b, 16, none⟩) (fun _ => rfl) _).drew⟩
  have := (((h.set (n % 16) (.int .u8 c)).set 16 (.int .i64 m)).set 16 (.int .i64 ((16 : Nat) : Int))).drew
  rw [List.set_set, rollT_set hr _ (by omega), rollC_set _ _ _ hr _ (by omega), rollT_set (by simpa using hr) _ (by omega), rollC_set16 _ _ _ _ (by simpa using hr)] at this
  rw [nx, if_pos hm]
  exact this

theorem push_lo (b : Nat) (T : List Value) (ring : List Int) (n : Nat) (s c : Int) (w : World) (h : At w b (rollC ring n s ++ T)) (hr : ring.length = 16) (hn : n < 16)
    (hs0 : 0 ≤ s) (hs1 : s < 4294967296) (hc0 : 0 ≤ c) (hc1 : c ≤ 255) :
    Calls Try.prog 42 #[.pointer (some ⟨b, 0, none⟩), .int .u8 c] w fun e w' =>
      e = .returned (.int .u32 (ps ring n s c)) ∧ At w' b (rollC (ring.set (n % 16) c) (nx n) (ps ring n s c) ++ T) ∧ Kp (· = b) w w' := by
  have hw := wt_bd c
  have h16 := rollT_16 h hr
  have h17 := rollT_17 h hr
  have h18 := rollT_18 h hr
  have hf := fun i => h.frozen i
  have he : ((n : Int) + 1 == 32) = false := by simp; omega
  go_enter Try.func42, Try.ntmps42
  go_wp2_with (go_at_call 44; refine (none_at _ true _ h18).mono ?_; rintro e w' ⟨rfl, rfl⟩)
  go_still_tail 11, (by kernel_rfl)
  refine wpStill_step (fun K hK => ?_)
  go_simp
  refine ⟨_, (weight_any _ _ hc0 hc1).mono (fun e w' ⟨h1, h2⟩ => ⟨h1, h2.symm⟩), hK _ ?_⟩
  clear hK K
  repeat still_step
  refine wpStill_nil ?_
  change wpList _ _ _ _ _ w.drew
  go_wp2_with fail
  have e : (s * 3 % 4294967296 + wt c) % 4294967296 = ps ring n s c := by unfold ps; rw [if_pos hn]; omega
  refine wp_world (fun w' => At w' b (rollC ring n (ps ring n s c) ++ T) ∧ Kp (· = b) w w') ⟨?_, ?_⟩ ?_
  · have := (h.set 17 (.int .u32 (ps ring n s c))).drew
    rw [rollT_set hr _ (by omega), rollC_set17 _ _ _ _ hr] at this
    rw [e]; exact this
  · exact ((Kp.refl (· = b) w).setCell (p := ⟨b, 17, none⟩) (fun _ => rfl) _).drew
  clear h h16 h17 h18 hf hw e
  rintro w2 ⟨h, k2⟩
  have h16 := rollT_16 h hr
  have h17 := rollT_17 h hr
  have hring := rollT_ring h hr (n % 16) (by omega)
  have hf := fun i => h.frozen i
  go_still_tail 9, (by kernel_rfl)
  change wpList _ _ _ _ _ w2.drew
  go_wp2
  go_ret
  exact ⟨rfl, push_end h k2 hr (by omega) _ ⟨rfl, by omega⟩⟩

theorem push_hi (b : Nat) (T : List Value) (ring : List Int) (n : Nat) (s c : Int) (w : World) (h : At w b (rollC ring n s ++ T)) (hr : ring.length = 16) (hn0 : 16 ≤ n) (hn : n < 32)
    (hs0 : 0 ≤ s) (hs1 : s < 4294967296) (hc0 : 0 ≤ c) (hc1 : c ≤ 255) (hb : Byt ring) :
    Calls Try.prog 42 #[.pointer (some ⟨b, 0, none⟩), .int .u8 c] w fun e w' =>
      e = .returned (.int .u32 (ps ring n s c)) ∧ At w' b (rollC (ring.set (n % 16) c) (nx n) (ps ring n s c) ++ T) ∧ Kp (· = b) w w' := by
  have h16 := rollT_16 h hr
  have h17 := rollT_17 h hr
  have h18 := rollT_18 h hr
  have hf := fun i => h.frozen i
  have hring := rollT_ring h hr (n % 16) (by omega)
  have hd := hb.getD (n % 16)
  have hp0 : 0 ≤ (n : Int) % 16 := by omega
  have hp1 : (n : Int) % 16 < 16 := by omega
  have hp2 : (n : Int).tmod 16 = (n : Int) % 16 := Int.tmod_eq_emod_of_nonneg (by omega)
  have hp3 : ((n : Int) % 16).toNat = n % 16 := by omega
  have H : Hid (ps ring n s c = rl s (ring.getD (n % 16) 0) c) := by show ps _ _ _ _ = _; unfold ps; rw [if_neg (by omega)]
  generalize ring.getD (n % 16) 0 = d at *
  go_enter Try.func42, Try.ntmps42
  go_wp2_with (go_at_call 44; refine (none_at _ true _ h18).mono ?_; rintro e w' ⟨rfl, rfl⟩)
  go_still_tail 18, (by kernel_rfl)
  refine wpStill_step (fun K hK => ?_)
  go_simp
  refine ⟨_, (roll_any _ _ _ _ hc0 hc1 hd.1 hd.2 hs0 hs1).mono (fun e w' ⟨h1, h2⟩ => ⟨h1, h2.symm⟩), hK _ ?_⟩
  clear hK K
  repeat still_step
  refine wpStill_nil ?_
  change wpList _ _ _ _ _ w.drew
  go_wp2_with fail
  refine wp_world (fun w' => At w' b (rollC ring n (ps ring n s c) ++ T) ∧ Kp (· = b) w w') ⟨?_, ?_⟩ ?_
  · have := (h.set 17 (.int .u32 (ps ring n s c))).drew
    rw [rollT_set hr _ (by omega), rollC_set17 _ _ _ _ hr, H.out] at this
    rw [H.out]; exact this
  · exact ((Kp.refl (· = b) w).setCell (p := ⟨b, 17, none⟩) (fun _ => rfl) _).drew
  clear h h16 h17 h18 hf hring
  rintro w2 ⟨h, k2⟩
  have h16 := rollT_16 h hr
  have h17 := rollT_17 h hr
  have hring := rollT_ring h hr (n % 16) (by omega)
  have hf := fun i => h.frozen i
  by_cases he : n + 1 = 32
  · have he' : ((n : Int) + 1 == 32) = true := by simp; omega
    have HE := Lib.hid he
    clear he
    go_still_tail 9, (by kernel_rfl)
    change wpList _ _ _ _ _ w2.drew
    go_wp2
    go_ret
    exact ⟨rfl, push_end' h k2 hr _ HE.out⟩
  · have he' : ((n : Int) + 1 == 32) = false := by simp; omega
    go_still_tail 9, (by kernel_rfl)
    change wpList _ _ _ _ _ w2.drew
    go_wp2
    go_ret
    exact ⟨rfl, push_end h k2 hr (by omega) _ ⟨rfl, he⟩⟩

theorem push_at (b : Nat) (T : List Value) (ring : List Int) (n : Nat) (s c : Int) (w : World) (h : At w b (rollC ring n s ++ T)) (hr : ring.length = 16) (hn : n < 32)
    (hs0 : 0 ≤ s) (hs1 : s < 4294967296) (hc0 : 0 ≤ c) (hc1 : c ≤ 255) (hb : Byt ring) :
    Calls Try.prog 42 #[.pointer (some ⟨b, 0, none⟩), .int .u8 c] w fun e w' =>
      e = .returned (.int .u32 (ps ring n s c)) ∧ At w' b (rollC (ring.set (n % 16) c) (nx n) (ps ring n s c) ++ T) ∧ Kp (· = b) w w' := by
  by_cases h16 : n < 16
  · exact push_lo b T ring n s c w h hr h16 hs0 hs1 hc0 hc1
  · exact push_hi b T ring n s c w h hr (by omega) hn hs0 hs1 hc0 hc1 hb
theorem push_front (b : Nat) (T : List Value) (ring : List Int) (n : Nat) (s c : Int) (l : List Int) (w : World) (h : At w b (rollC ring n s ++ T)) (i : RollInv l ring n s) (hc : 0 ≤ c ∧ c ≤ 255) :
    Calls Try.prog 42 #[.pointer (some ⟨b, 0, none⟩), .int .u8 c] w fun e w' =>
      e = .returned (.int .u32 (sm (last16 (l ++ [c])))) ∧ (∃ ring' n' s', At w' b (rollC ring' n' s' ++ T) ∧ RollInv (l ++ [c]) ring' n' s') ∧ Kp (· = b) w w' := by
  obtain ⟨j1, j2⟩ := i.push hc
  refine (push_at b T ring n s c w h i.len i.lt.1 i.bd.1 i.bd.2 hc.1 hc.2 i.byt).mono fun e w' ⟨h1, h2, h3⟩ => ⟨by rw [h1, j1], ⟨_, _, _, h2, j2⟩, h3⟩
end Go.Proofs.Ytlabkldpcbmjbaa
