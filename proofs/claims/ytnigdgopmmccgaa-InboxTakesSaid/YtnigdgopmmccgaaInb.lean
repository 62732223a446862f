/- Package inbox: the contracts of its small methods. -/
import Derived.Test.YtnigdgopmmccgaaMem
namespace Go.Proofs.Ytnigdgopmmccgaa
open Go.RowKit
set_option linter.unusedVariables false

theorem inone_nil (w : World) : Calls Try.prog 26 #[.pointer none] w fun e w' => e = .returned (.bool true) ∧ w = w' := by
  go_enter Try.func26, Try.ntmps26
  go_wp2
  go_ret
  exact ⟨rfl, rfl⟩
theorem inone_at (b : Nat) (s : Int) (w : World) (h : w.cell? ⟨b, 0, none⟩ = some (.int .i64 s)) :
    Calls Try.prog 26 #[.pointer (some ⟨b, 0, none⟩)] w fun e w' => e = .returned (.bool (s == 0)) ∧ w = w' := by
  go_enter Try.func26, Try.ntmps26
  go_wp2
  go_ret
  exact ⟨rfl, rfl⟩
theorem next_un (b : Nat) (w : World) (h0 : w.cell? ⟨b, 0, none⟩ = some (.int .i64 0)) : Calls Try.prog 17 #[.pointer (some ⟨b, 0, none⟩)] w fun e w' => e = .returned (.int .i64 0) ∧ w = w' := by
  go_enter Try.func17, Try.ntmps17
  go_wp2_with (go_at_call 26; refine (inone_at b 0 _ h0).mono ?_; rintro e w' ⟨rfl, rfl⟩)
  go_ret
  exact ⟨rfl, rfl⟩
theorem held_un (b : Nat) (w : World) (h0 : w.cell? ⟨b, 0, none⟩ = some (.int .i64 0)) : Calls Try.prog 18 #[.pointer (some ⟨b, 0, none⟩)] w fun e w' => e = .returned (.int .i64 0) ∧ w = w' := by
  go_enter Try.func18, Try.ntmps18
  go_wp2_with (go_at_call 26; refine (inone_at b 0 _ h0).mono ?_; rintro e w' ⟨rfl, rfl⟩)
  go_ret
  exact ⟨rfl, rfl⟩
theorem has_un (b : Nat) (seq : Int) (w : World) (h0 : w.cell? ⟨b, 0, none⟩ = some (.int .i64 0)) : Calls Try.prog 19 #[.pointer (some ⟨b, 0, none⟩), .int .i64 seq] w fun e w' => e = .returned (.bool false) ∧ w = w' := by
  go_enter Try.func19, Try.ntmps19
  go_wp2_with (go_at_call 26; refine (inone_at b 0 _ h0).mono ?_; rintro e w' ⟨rfl, rfl⟩)
  go_ret
  exact ⟨rfl, rfl⟩
theorem next_nil (w : World) : Calls Try.prog 17 #[.pointer none] w fun e w' => e = .returned (.int .i64 0) ∧ w = w' := by
  go_enter Try.func17, Try.ntmps17
  go_wp2_with (go_at_call 26; refine (inone_nil _).mono ?_; rintro e w' ⟨rfl, rfl⟩)
  go_ret
  exact ⟨rfl, rfl⟩
theorem held_nil (w : World) : Calls Try.prog 18 #[.pointer none] w fun e w' => e = .returned (.int .i64 0) ∧ w = w' := by
  go_enter Try.func18, Try.ntmps18
  go_wp2_with (go_at_call 26; refine (inone_nil _).mono ?_; rintro e w' ⟨rfl, rfl⟩)
  go_ret
  exact ⟨rfl, rfl⟩
theorem has_nil (seq : Int) (w : World) : Calls Try.prog 19 #[.pointer none, .int .i64 seq] w fun e w' => e = .returned (.bool false) ∧ w = w' := by
  go_enter Try.func19, Try.ntmps19
  go_wp2_with (go_at_call 26; refine (inone_nil _).mono ?_; rintro e w' ⟨rfl, rfl⟩)
  go_ret
  exact ⟨rfl, rfl⟩
theorem next_at (b : Nat) (s n : Int) (w : World) (h0 : w.cell? ⟨b, 0, none⟩ = some (.int .i64 s)) (h1 : w.cell? ⟨b, 1, none⟩ = some (.int .i64 n)) (hs : (s == 0) = false) : Calls Try.prog 17 #[.pointer (some ⟨b, 0, none⟩)] w fun e w' => e = .returned (.int .i64 n) ∧ w = w' := by
  go_enter Try.func17, Try.ntmps17
  go_wp2_with (go_at_call 26; refine (inone_at b s _ h0).mono ?_; rintro e w' ⟨rfl, rfl⟩)
  go_ret
  exact ⟨rfl, rfl⟩
theorem held_at (b : Nat) (s h : Int) (w : World) (h0 : w.cell? ⟨b, 0, none⟩ = some (.int .i64 s)) (h2 : w.cell? ⟨b, 2, none⟩ = some (.int .i64 h)) (hs : (s == 0) = false) : Calls Try.prog 18 #[.pointer (some ⟨b, 0, none⟩)] w fun e w' => e = .returned (.int .i64 h) ∧ w = w' := by
  go_enter Try.func18, Try.ntmps18
  go_wp2_with (go_at_call 26; refine (inone_at b s _ h0).mono ?_; rintro e w' ⟨rfl, rfl⟩)
  go_ret
  exact ⟨rfl, rfl⟩
theorem ahead_lt (b : Nat) (n seq : Int) (w : World) (h1 : w.cell? ⟨b, 1, none⟩ = some (.int .i64 n)) (hlt : seq < n) : Calls Try.prog 27 #[.pointer (some ⟨b, 0, none⟩), .int .i64 seq] w fun e w' => e = .returned (.bool false) ∧ ∃ m, w' = w.drewN m := by
  have hd : decide (n ≤ seq) = false := by simp; omega
  go_enter Try.func27, Try.ntmps27
  go_wp2_with fail
  go_quiet (fail)
  go_wp2
  go_ret
  exact ⟨rfl, _, rfl⟩
theorem ahead_ge (b : Nat) (s n seq : Int) (w : World) (h0 : w.cell? ⟨b, 0, none⟩ = some (.int .i64 s)) (h1 : w.cell? ⟨b, 1, none⟩ = some (.int .i64 n)) (hge : n ≤ seq) (hn : 0 ≤ n) (hseq : seq ≤ 9223372036854775807) : Calls Try.prog 27 #[.pointer (some ⟨b, 0, none⟩), .int .i64 seq] w fun e w' => e = .returned (.bool (decide (seq - n < s))) ∧ ∃ m, w' = w.drewN m := by
  have hd : IntKind.i64.wrap (seq - n) = seq - n := IntWalk.i64_in _ (by omega)
  go_enter Try.func27, Try.ntmps27
  go_wp2_with fail
  go_quiet (fail)
  go_wp2
  go_ret
  exact ⟨rfl, _, rfl⟩
theorem has_neg (b : Nat) (s seq : Int) (w : World) (h0 : w.cell? ⟨b, 0, none⟩ = some (.int .i64 s)) (hs : (s == 0) = false) (h : seq < 1) : Calls Try.prog 19 #[.pointer (some ⟨b, 0, none⟩), .int .i64 seq] w fun e w' => e = .returned (.bool false) ∧ ∃ m, w' = w.drewN m := by
  go_enter Try.func19, Try.ntmps19
  go_wp2_with (go_at_call 26; refine (inone_at b s _ h0).mono ?_; rintro e w' ⟨rfl, rfl⟩)
  go_ret
  exact ⟨rfl, 0, rfl⟩
theorem has_old (b : Nat) (s n seq : Int) (w : World) (h0 : w.cell? ⟨b, 0, none⟩ = some (.int .i64 s)) (h1 : w.cell? ⟨b, 1, none⟩ = some (.int .i64 n)) (hs : (s == 0) = false) (h : 1 ≤ seq) (h' : seq < n) : Calls Try.prog 19 #[.pointer (some ⟨b, 0, none⟩), .int .i64 seq] w fun e w' => e = .returned (.bool true) ∧ ∃ m, w' = w.drewN m := by
  have hd : decide (seq < n) = true := by simpa using h'
  go_enter Try.func19, Try.ntmps19
  go_wp2_with (go_at_call 26; refine (inone_at b s _ h0).mono ?_; rintro e w' ⟨rfl, rfl⟩)
  go_ret
  exact ⟨rfl, 0, rfl⟩
theorem has_far (b : Nat) (s n seq : Int) (w : World) (h0 : w.cell? ⟨b, 0, none⟩ = some (.int .i64 s)) (h1 : w.cell? ⟨b, 1, none⟩ = some (.int .i64 n)) (hs : (s == 0) = false) (hn : 1 ≤ n) (h : n ≤ seq) (h' : s ≤ seq - n) (hseq : seq ≤ 9223372036854775807) : Calls Try.prog 19 #[.pointer (some ⟨b, 0, none⟩), .int .i64 seq] w fun e w' => e = .returned (.bool false) ∧ ∃ m, w' = w.drewN m := by
  have hd : decide (seq - n < s) = false := by simp; omega
  have C := ahead_ge b s n seq w h0 h1 h (by omega) hseq
  rw [hd] at C
  have C' := Lib.hid C
  have hd' : decide (seq < n) = false := by simp; omega
  clear C hd
  go_enter Try.func19, Try.ntmps19
  go_wp2_with (first | (go_at_call 26; refine (inone_at b s _ h0).mono ?_; rintro e w' ⟨rfl, rfl⟩) | (go_at_call 27; refine C'.out.mono ?_; rintro e w' ⟨rfl, m, rfl⟩))
  go_ret
  exact ⟨rfl, _, rfl⟩
theorem has_in (b : Nat) (s n : Int) (k : Nat) (t : Bool) (w : World) (h0 : w.cell? ⟨b, 0, none⟩ = some (.int .i64 s)) (h1 : w.cell? ⟨b, 1, none⟩ = some (.int .i64 n)) (hs : (s == 0) = false) (hn : 1 ≤ n) (h : n ≤ k) (h' : (k : Int) - n < s) (hseq : (k : Int) ≤ 9223372036854775807) (hc : w.cell? ⟨b, 4 + 2 * (k % 64), none⟩ = some (.bool t)) :
    Calls Try.prog 19 #[.pointer (some ⟨b, 0, none⟩), .int .i64 k] w fun e w' => e = .returned (.bool t) ∧ ∃ m, w' = w.drewN m := by
  have hd : decide ((k : Int) - n < s) = true := by simp; omega
  have C := ahead_ge b s n k w h0 h1 h (by omega) hseq
  rw [hd] at C
  have C' := Lib.hid C
  have hd' : decide ((k : Int) < n) = false := by simp; omega
  have e0 : 0 ≤ (k : Int) % 64 := by omega
  have e1 : (k : Int) % 64 < 64 := by omega
  have e2 : ((k : Int) % 64).toNat = k % 64 := by omega
  rw [show 4 + 2 * (k % 64) = 3 + k % 64 * 2 + 1 by omega] at hc
  clear C hd
  go_enter Try.func19, Try.ntmps19
  go_wp2_with (first | (go_at_call 26; refine (inone_at b s _ h0).mono ?_; rintro e w' ⟨rfl, rfl⟩) | (go_at_call 27; refine C'.out.mono ?_; rintro e w' ⟨rfl, m, rfl⟩))
  go_ret
  exact ⟨rfl, m, rfl⟩
end Go.Proofs.Ytnigdgopmmccgaa
